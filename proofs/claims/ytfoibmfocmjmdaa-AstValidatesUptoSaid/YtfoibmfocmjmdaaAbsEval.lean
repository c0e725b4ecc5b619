/- The abstract machine with decisions that can be reckoned: for closed runs. -/
import Derived.Test.YtfoibmfocmjmdaaAbsTop
set_option linter.unusedVariables false
set_option linter.unusedSimpArgs false
set_option linter.all false
set_option linter.deprecated false
namespace Go.Abs

def beqL {α : Type} (f : α → α → Bool) : List α → List α → Bool
  | [], [] => true
  | x :: xs, y :: ys => f x y && beqL f xs ys
  | _, _ => false

theorem beqL_eq {α : Type} {f : α → α → Bool} (h : ∀ x y, f x y = true → x = y) : ∀ {xs ys : List α}, beqL f xs ys = true → xs = ys
  | [], [], _ => rfl
  | x :: xs, y :: ys, e => by
    simp only [beqL, Bool.and_eq_true] at e
    rw [h x y e.1, beqL_eq h e.2]
  | [], _ :: _, e => by cases e
  | _ :: _, [], e => by cases e

def beqD : Nat → Dat → Dat → Bool
  | 0, _, _ => false
  | _ + 1, .bool a, .bool b => a == b
  | _ + 1, .int k a, .int k' b => decide (k = k') && a == b
  | _ + 1, .str a, .str b => a == b
  | n + 1, .slice a, .slice b => beqL (beqL (beqD n)) a b
  | _, _, _ => false

theorem beqD_eq : ∀ (n : Nat) (x y : Dat), beqD n x y = true → x = y
  | 0, _, _, e => by simp [beqD] at e
  | n + 1, x, y, e => by
    unfold beqD at e
    split at e <;> rename_i h
    · cases h
    · simp at e; subst e; rfl
    · simp at e; obtain ⟨rfl, rfl⟩ := e; rfl
    · simp at e; subst e; rfl
    · rename_i m a b
      cases h
      rw [beqL_eq (fun x y => beqL_eq (beqD_eq n)) e]
    · cases e

def beqV : Nat → AV → AV → Bool
  | 0, _, _ => false
  | n + 1, .d a, .d b => beqD n a b
  | _ + 1, .nilS, .nilS => true
  | n + 1, .full a, .full b => beqL (beqL (beqD n)) a b
  | _ + 1, .own a b, .own a' b' => a == a' && b == b'
  | _ + 1, .nilP, .nilP => true
  | _ + 1, .ptr a b, .ptr a' b' => a == a' && b == b'
  | n + 1, .sptr a, .sptr b => beqL (beqD n) a b
  | _ + 1, .eptr a b p q, .eptr a' b' p' q' => a == a' && b == b' && p == p' && q == q'
  | _ + 1, .nilF, .nilF => true
  | _ + 1, .nilM, .nilM => true
  | n + 1, .func (.func f) a b, .func (.func f') a' b' => f == f' && beqL (beqV n) a a' && beqL (beqV n) b b'
  | _ + 1, .mapr a, .mapr b => a == b
  | n + 1, .agg a, .agg b => beqL (beqV n) a b
  | n + 1, .tuple a, .tuple b => beqL (beqV n) a b
  | _, _, _ => false

theorem beqV_eq : ∀ (n : Nat) (x y : AV), beqV n x y = true → x = y
  | 0, _, _, e => by simp [beqV] at e
  | n + 1, x, y, e => by
    unfold beqV at e
    split at e <;> rename_i h
    · cases h
    · cases h; rw [beqD_eq n _ _ e]
    · rfl
    · cases h; rw [beqL_eq (fun x y => beqL_eq (beqD_eq n)) e]
    · simp at e; obtain ⟨rfl, rfl⟩ := e; rfl
    · rfl
    · simp at e; obtain ⟨rfl, rfl⟩ := e; rfl
    · cases h; rw [beqL_eq (beqD_eq n) e]
    · simp at e; obtain ⟨⟨⟨rfl, rfl⟩, rfl⟩, rfl⟩ := e; rfl
    · rfl
    · rfl
    · cases h
      simp only [Bool.and_eq_true, beq_iff_eq] at e
      obtain ⟨⟨rfl, e1⟩, e2⟩ := e
      rw [beqL_eq (beqV_eq n) e1, beqL_eq (beqV_eq n) e2]
    · simp at e; subst e; rfl
    · cases h; rw [beqL_eq (beqV_eq n) e]
    · cases h; rw [beqL_eq (beqV_eq n) e]
    · cases e

/-! ### certainly unlike -/
def neL {α : Type} (f : α → α → Bool) : List α → List α → Bool
  | [], [] => false
  | x :: xs, y :: ys => f x y || neL f xs ys
  | _, _ => true

theorem neL_ne {α : Type} {f : α → α → Bool} (h : ∀ x y, f x y = true → x ≠ y) : ∀ {xs ys : List α}, neL f xs ys = true → xs ≠ ys
  | [], [], e => by cases e
  | x :: xs, y :: ys, e => by
    simp only [neL, Bool.or_eq_true] at e
    intro he
    cases he
    rcases e with e | e
    · exact h _ _ e rfl
    · exact neL_ne h e rfl
  | [], _ :: _, _ => by intro h; cases h
  | _ :: _, [], _ => by intro h; cases h

def Dat.tag : Dat → Nat
  | .bool _ => 0
  | .int _ _ => 1
  | .str _ => 2
  | .slice _ => 3

def neD : Nat → Dat → Dat → Bool
  | 0, _, _ => false
  | _ + 1, .bool a, .bool b => a != b
  | _ + 1, .int k a, .int k' b => !(decide (k = k')) || a != b
  | _ + 1, .str a, .str b => a != b
  | n + 1, .slice a, .slice b => neL (neL (neD n)) a b
  | _ + 1, x, y => x.tag != y.tag

theorem neD_ne : ∀ (n : Nat) (x y : Dat), neD n x y = true → x ≠ y
  | 0, _, _, e => by simp [neD] at e
  | n + 1, x, y, e => by
    intro h
    subst h
    unfold neD at e
    cases x with
    | bool b => simp at e
    | int k n => simp at e
    | str s => simp at e
    | slice r => exact neL_ne (fun x y => neL_ne (neD_ne n)) e rfl

def AV.tag : AV → Nat
  | .d _ => 0
  | .nilS => 1
  | .full _ => 2
  | .own _ _ => 3
  | .nilP => 4
  | .ptr _ _ => 5
  | .sptr _ => 6
  | .eptr _ _ _ _ => 7
  | .nilF => 8
  | .nilM => 9
  | .func _ _ _ => 10
  | .mapr _ => 11
  | .agg _ => 12
  | .tuple _ => 13

def neV : Nat → AV → AV → Bool
  | 0, _, _ => false
  | n + 1, .d a, .d b => neD n a b
  | n + 1, .full a, .full b => neL (neL (neD n)) a b
  | _ + 1, .own a b, .own a' b' => a != a' || b != b'
  | _ + 1, .ptr a b, .ptr a' b' => a != a' || b != b'
  | n + 1, .sptr a, .sptr b => neL (neD n) a b
  | _ + 1, .mapr a, .mapr b => a != b
  | n + 1, .agg a, .agg b => neL (neV n) a b
  | n + 1, .tuple a, .tuple b => neL (neV n) a b
  | _ + 1, x, y => x.tag != y.tag

theorem neV_ne : ∀ (n : Nat) (x y : AV), neV n x y = true → x ≠ y
  | 0, _, _, e => by simp [neV] at e
  | n + 1, x, y, e => by
    intro h
    subst h
    unfold neV at e
    cases x with
    | d x => exact neD_ne n _ _ e rfl
    | full r => exact neL_ne (fun x y => neL_ne (neD_ne n)) e rfl
    | sptr r => exact neL_ne (neD_ne n) e rfl
    | agg r => exact neL_ne (neV_ne n) e rfl
    | tuple r => exact neL_ne (neV_ne n) e rfl
    | _ => simp at e

def neO : AObj → AObj → Bool
  | .cells a, .cells b => neL (neV 50) a b
  | .map a, .map b => neL (fun p q => neD 50 p.1 q.1 || neV 50 p.2 q.2) a b
  | .iter a p, .iter b q => a != b || p != q
  | _, _ => true

theorem neO_ne (x y : AObj) (e : neO x y = true) : x ≠ y := by
  intro h
  subst h
  cases x with
  | cells a => exact neL_ne (neV_ne 50) e rfl
  | map a =>
    refine neL_ne (fun p q h => ?_) e rfl
    intro hpq
    subst hpq
    simp only [Bool.or_eq_true] at h
    rcases h with h | h
    · exact neD_ne 50 _ _ h rfl
    · exact neV_ne 50 _ _ h rfl
  | iter a p => simp [neO] at e

def beqO : AObj → AObj → Bool
  | .cells a, .cells b => beqL (beqV 50) a b
  | .map a, .map b => beqL (fun p q => beqD 50 p.1 q.1 && beqV 50 p.2 q.2) a b
  | .iter a p, .iter b q => a == b && p == q
  | _, _ => false

theorem beqO_eq (x y : AObj) (e : beqO x y = true) : x = y := by
  unfold beqO at e
  split at e
  · rw [beqL_eq (beqV_eq 50) e]
  · rw [beqL_eq (fun p q h => by
      simp only [Bool.and_eq_true] at h
      exact Prod.ext (beqD_eq 50 _ _ h.1) (beqV_eq 50 _ _ h.2)) e]
  · simp only [Bool.and_eq_true, beq_iff_eq] at e
    rw [e.1, e.2]
  · cases e

def beqB (x y : ABuf) : Bool := x.e == y.e && x.sz == y.sz && x.frozen == y.frozen && beqL (beqL (beqD 50)) x.rows y.rows

theorem beqB_eq (x y : ABuf) (e : beqB x y = true) : x = y := by
  simp only [beqB, Bool.and_eq_true, beq_iff_eq] at e
  obtain ⟨⟨⟨h1, h2⟩, h3⟩, h4⟩ := e
  have h5 := beqL_eq (fun x y => beqL_eq (beqD_eq 50)) h4
  cases x; cases y
  simp only at h1 h2 h3 h5
  rw [h1, h2, h3, h5]

structure BMark where
  i : Nat
  u : Bool × Bool
  px : Bool
  co : Bool
  cb : Bool

section
variable (c : ACtx) (call : FuncId → AFun) (f : FuncId) (nt : Nat)

def btrace (ops : Array Oper) : Nat → List Oper → AEnv → AHeap → Option ((AEnv × AHeap) × List BMark)
  | _, [], env, A => some ((env, A), [])
  | i, o :: rest, env, A => (aguard ops env o).bind fun b =>
    if b then (aop c call f nt o env A).bind fun r => (btrace ops (i + 1) rest r.1 r.2).map fun s =>
        (s.1, ⟨i, auses env f c o, pstore env o, !(beqL beqO r.2.objs A.objs), !(beqL beqB r.2.bufs A.bufs)⟩ :: s.2)
    else (aput nt o.dst (.v (.tuple [])) env).bind fun env' => btrace ops (i + 1) rest env' A

def bdrawn (ops : Array Oper) (ms : List BMark) : Bool :=
  ((ms.all fun m => !m.co && !m.cb) || ms.all fun m => ms.all fun m' => m.i == m'.i || !((m.co && m'.u.1) || (m.cb && m'.u.2)) || aord ops m.i m'.i) &&
  ms.all fun m => !m.px || (List.range ops.size).all fun j => j == m.i || aord ops m.i j

def bregion (ops : Array Oper) (draw : Bool) (env : AEnv) (A : AHeap) : Option (AEnv × AHeap) :=
  if draw then (btrace c.noesc call f nt ops 0 ops.toList (noPlaces env) A).bind fun r => if bdrawn ops r.2 then some (apromote (c.esc f) ops.toList r.1.1 r.1.2) else none
  else aops c call f nt ops ops.toList env A

def bcode (lf : Nat) : Code → AEnv → AHeap → ARes
  | .skip, env, A => some (.normal, env, A)
  | .region id ops draw, env, A => (bregion c call f nt ops draw (atrim c f (some id) env) A).map fun r => (.normal, r.1, r.2)
  | .seq a b, env, A => (bcode lf a env A).bind fun r => match r.1 with
    | .normal => bcode lf b r.2.1 r.2.2
    | _ => some r
  | .cond x t e, env, A => match aeval env x with
    | some (.d (.bool b)) => if b then bcode lf t env A else bcode lf e env A
    | _ => none
  | .block id b, env, A => (bcode lf b env A).map fun r => match r.1 with
    | .exit j => if j = id then (.normal, r.2) else r
    | _ => r
  | .loop b, env, A => aloop (bcode lf b) (atrim c f (firstRegion b)) lf env A
  | .exit id, env, A => some (.exit id, env, A)
  | .ret, env, A => some (.ret, env, A)
  | _, _, _ => none

def bcut (A0 : AHeap) (v : AV) (A : AHeap) : Option (AV × AHeap) :=
  if beqL beqO (A.objs.take A0.objs.length) A0.objs then
    some (if v.noptr then (v, ⟨A0.objs, A.bufs.take A0.bufs.length⟩) else
    match v with
    | .own tok len => if tok < A0.bufs.length then (v, ⟨A0.objs, A.bufs.take A0.bufs.length⟩) else
      match A.bufs[tok]? with
      | some b => (.own A0.bufs.length len, ⟨A0.objs, A.bufs.take A0.bufs.length ++ [b]⟩)
      | none => (v, A)
    | _ => (v, A))
  else if neL neO (A.objs.take A0.objs.length) A0.objs then some (v, A) else none

def bfinish (A0 : AHeap) (v : AV) (A : AHeap) : Option (AV × AHeap) :=
  if c.own f then bcut A0 v A else let r := acleanR A v; bcut A0 r.1 r.2

def bbody (ok : FuncId → Bool) (lf : Nat) (args : List AV) (A : AHeap) : Option (AV × AHeap) :=
  match c.ext f with
  | some g => g args A
  | none => match c.P.funcs[f]? with
    | none => none
    | some fn => match fn.body with
      | none => none
      | some code => if ok f = true ∧ args.length ≤ fn.ntmps then
          let r := if c.own f then (args, A) else acleanVs A args
          (bcode c call f fn.ntmps lf code (aenter 0 r.1) r.2).bind fun x => match x.1 with
            | .exit _ => none
            | _ => (aresults c x.2.1 x.2.2 fn.results.toList).bind fun v => bfinish c f A v x.2.2
        else none
end

def bclF (c : ACtx) (ok : FuncId → Bool) : Nat → FuncId → AFun
  | 0 => fun _ _ _ => none
  | n + 1 => fun f args A => bbody c (bclF c ok n) f ok n args A

section
variable {c : ACtx} {call : FuncId → AFun} {f : FuncId} {nt : Nat} {ops : Array Oper}

theorem btrace_sound : ∀ (l : List Oper) {i : Nat} {env : AEnv} {A : AHeap} {r : AEnv × AHeap} {bs : List BMark}, btrace c call f nt ops i l env A = some (r, bs) →
    ∃ ms, atrace c call f nt ops i l env A = some (r, ms) ∧ ∀ m ∈ ms, ∃ b ∈ bs, b.i = m.i ∧ b.u = m.u ∧ b.px = m.px ∧ (m.co → b.co = true) ∧ (m.cb → b.cb = true)
  | [], i, env, A, r, bs, h => by
    simp only [btrace] at h
    cases h
    exact ⟨[], rfl, fun m hm => by cases hm⟩
  | o :: l, i, env, A, r, bs, h => by
    simp only [btrace, Option.bind_eq_some_iff] at h
    obtain ⟨b, hb, h⟩ := h
    cases b with
    | true =>
      simp only [if_true, Option.bind_eq_some_iff, Option.map_eq_some_iff] at h
      obtain ⟨p, hp, ⟨s, bs'⟩, hs, h⟩ := h
      cases h
      obtain ⟨ms, h1, h2⟩ := btrace_sound l hs
      refine ⟨⟨i, auses env f c o, pstore env o, p.2.objs ≠ A.objs, p.2.bufs ≠ A.bufs⟩ :: ms, ?_, fun m hm => ?_⟩
      · simp [atrace, hb, hp, h1]
      · cases hm with
        | head =>
          refine ⟨_, List.mem_cons_self, rfl, rfl, rfl, fun hco => ?_, fun hcb => ?_⟩
          · cases hq : beqL beqO p.2.objs A.objs with
            | false => simp
            | true => exact absurd (beqL_eq beqO_eq hq) hco
          · cases hq : beqL beqB p.2.bufs A.bufs with
            | false => simp
            | true => exact absurd (beqL_eq beqB_eq hq) hcb
        | tail _ hm =>
          obtain ⟨b, hb1, hb2⟩ := h2 m hm
          exact ⟨b, List.mem_cons_of_mem _ hb1, hb2⟩
    | false =>
      simp only [Bool.false_eq_true, if_false, Option.bind_eq_some_iff] at h
      obtain ⟨e, he, h⟩ := h
      obtain ⟨ms, h1, h2⟩ := btrace_sound l h
      exact ⟨ms, by simp [atrace, hb, he, h1], h2⟩

theorem bdrawn_sound {bs : List BMark} {ms : List AMark} (h : bdrawn ops bs = true) (hm : ∀ m ∈ ms, ∃ b ∈ bs, b.i = m.i ∧ b.u = m.u ∧ b.px = m.px ∧ (m.co → b.co = true) ∧ (m.cb → b.cb = true)) : adrawn ops ms := by
  unfold bdrawn at h
  rw [Bool.and_eq_true] at h
  obtain ⟨h, hpx⟩ := h
  refine ⟨fun m h1 m' h2 hne hh => ?_, fun m h1 hp j hj hne => ?_⟩
  rotate_left
  · obtain ⟨b, k1, k2, k3, kp, k4, k5⟩ := hm m h1
    rw [List.all_eq_true] at hpx
    have := hpx b k1
    rw [kp, hp, k2] at this
    simp only [Bool.not_true, Bool.false_or, List.all_eq_true] at this
    have := this j (List.mem_range.2 hj)
    rw [Bool.or_eq_true, beq_iff_eq] at this
    exact this.resolve_left hne
  obtain ⟨b, k1, k2, k3, _, k4, k5⟩ := hm m h1
  obtain ⟨b', l1, l2, l3, _, l4, l5⟩ := hm m' h2
  rw [Bool.or_eq_true] at h
  rcases h with h | h
  · rw [List.all_eq_true] at h
    have := h b k1
    simp only [Bool.and_eq_true, Bool.not_eq_true'] at this
    rcases hh with ⟨hh, _⟩ | ⟨hh, _⟩
    · rw [k4 hh] at this; cases this.1
    · rw [k5 hh] at this; cases this.2
  · rw [List.all_eq_true] at h
    have h := h b k1
    rw [List.all_eq_true] at h
    have h := h b' l1
    rw [Bool.or_eq_true, Bool.or_eq_true] at h
    rw [k2, l2, l3] at h
    rcases h with (h | h) | h
    · exact absurd (by simpa using h) hne
    · exfalso
      rcases hh with ⟨hh, hu⟩ | ⟨hh, hu⟩
      · rw [k4 hh, hu] at h; simp at h
      · rw [k5 hh, hu] at h; simp at h
    · exact h

theorem bregion_sound {draw : Bool} {env : AEnv} {A : AHeap} {r : AEnv × AHeap} (h : bregion c call f nt ops draw env A = some r) : aregion c call f nt ops draw env A = some r := by
  unfold bregion at h
  unfold aregion
  cases draw with
  | false => exact h
  | true =>
    simp only [if_true, Option.bind_eq_some_iff] at h ⊢
    obtain ⟨⟨s, bs⟩, h1, h2⟩ := h
    split at h2
    · rename_i hd
      cases h2
      obtain ⟨ms, h3, h4⟩ := btrace_sound _ h1
      exact ⟨_, h3, by rw [if_pos (bdrawn_sound hd h4)]⟩
    · cases h2

theorem aloop_sound {b1 b2 : AEnv → AHeap → ARes} {trim : AEnv → AEnv} (h : ∀ {env A r}, b1 env A = some r → b2 env A = some r) : ∀ (n : Nat) {env : AEnv} {A : AHeap} {r}, aloop b1 trim n env A = some r → aloop b2 trim n env A = some r
  | 0, env, A, r, e => by simp only [aloop] at e; cases e
  | n + 1, env, A, r, e => by
    simp only [aloop, Option.bind_eq_some_iff] at e ⊢
    obtain ⟨s, h1, h2⟩ := e
    refine ⟨s, h h1, ?_⟩
    revert h2
    cases s.1 with
    | normal => exact aloop_sound h n
    | exit _ => exact id
    | ret => exact id

theorem bcode_sound {lf : Nat} : ∀ (code : Code) {env : AEnv} {A : AHeap} {r}, bcode c call f nt lf code env A = some r → acode c call f nt lf code env A = some r
  | .skip, env, A, r, h => h
  | .region id ops draw, env, A, r, h => by
    simp only [bcode, acode, Option.map_eq_some_iff] at h ⊢
    obtain ⟨s, h1, h2⟩ := h
    exact ⟨s, bregion_sound h1, h2⟩
  | .seq p q, env, A, r, h => by
    simp only [bcode, acode, Option.bind_eq_some_iff] at h ⊢
    obtain ⟨s, h1, h2⟩ := h
    refine ⟨s, bcode_sound p h1, ?_⟩
    revert h2
    cases s.1 with
    | normal => exact bcode_sound q
    | exit _ => exact id
    | ret => exact id
  | .cond x p q, env, A, r, h => by
    simp only [bcode, acode] at h ⊢
    split at h
    · rename_i b hb
      rw [hb]
      cases b with
      | true => simp only [if_true] at h ⊢; exact bcode_sound p h
      | false => simp only [Bool.false_eq_true, if_false] at h ⊢; exact bcode_sound q h
    · cases h
  | .block id b, env, A, r, h => by
    simp only [bcode, acode, Option.map_eq_some_iff] at h ⊢
    obtain ⟨s, h1, h2⟩ := h
    exact ⟨s, bcode_sound b h1, h2⟩
  | .loop b, env, A, r, h => by
    simp only [bcode, acode] at h ⊢
    exact aloop_sound (fun e => bcode_sound b e) lf h
  | .exit id, env, A, r, h => h
  | .ret, env, A, r, h => h
  | .goto _, _, _, _, h => by simp [bcode] at h
  | .label _, _, _, _, h => by simp [bcode] at h

theorem bcut_sound {A0 A : AHeap} {v : AV} {r} (h : bcut A0 v A = some r) : acut A0 v A = r := by
  unfold bcut at h
  unfold acut
  split at h
  · rename_i hb
    rw [if_pos (beqL_eq beqO_eq hb)]
    cases h
    rfl
  · split at h
    · rename_i hb
      rw [if_neg (neL_ne neO_ne hb)]
      cases h
      rfl
    · cases h

theorem bfinish_sound {A0 A : AHeap} {v : AV} {r} (h : bfinish c f A0 v A = some r) : afinish c f A0 v A = r := by
  unfold bfinish at h
  unfold afinish
  split at h
  · rename_i ho; rw [if_pos ho]; exact bcut_sound h
  · rename_i ho; rw [if_neg ho]; exact bcut_sound h

theorem bbody_sound {ok : FuncId → Bool} (hok : ∀ f, ok f = true → fnOk c.P f = true) {lf : Nat} {args : List AV} {A : AHeap} {r} (h : bbody c call f ok lf args A = some r) : abody c call lf f args A = some r := by
  unfold bbody at h
  unfold abody
  split
  · rename_i g hg; rw [hg] at h; exact h
  · rename_i hg
    rw [hg] at h
    simp only at h
    split at h
    · cases h
    rename_i fn hfn
    rw [hfn]
    simp only
    split at h
    · cases h
    rename_i code hcode
    rw [hcode]
    simp only
    split at h
    · rename_i hc
      rw [if_pos ⟨hok f hc.1, hc.2⟩]
      simp only [Option.bind_eq_some_iff] at h ⊢
      obtain ⟨x, h1, h2⟩ := h
      refine ⟨x, bcode_sound code h1, ?_⟩
      have fin : (aresults c x.2.1 x.2.2 fn.results.toList).bind (fun v => bfinish c f A v x.2.2) = some r → (aresults c x.2.1 x.2.2 fn.results.toList).map (fun v => afinish c f A v x.2.2) = some r := by
        intro h
        rw [Option.bind_eq_some_iff] at h
        obtain ⟨v, h3, h4⟩ := h
        rw [h3, Option.map_some, bfinish_sound h4]
      revert h2
      cases x.1 with
      | normal => exact fin
      | ret => exact fin
      | exit _ => exact id
    · cases h

theorem bclF_sound {ok : FuncId → Bool} (hok : ∀ f, ok f = true → fnOk c.P f = true) : ∀ (n : Nat) {f : FuncId} {args : List AV} {A : AHeap} {r}, bclF c ok n f args A = some r → aclF c n f args A = some r
  | 0, f, args, A, r, h => by cases h
  | n + 1, f, args, A, r, h => abody_mono (fun f args A r e => bclF_sound hok n e) (Nat.le_refl _) (bbody_sound hok h)

theorem bcl_sound {ok : FuncId → Bool} (hok : ∀ f, ok f = true → fnOk c.P f = true) {n : Nat} {f : FuncId} {args : List AV} {A : AHeap} {r} (h : bclF c ok n f args A = some r) : acl c f args A = some r :=
  acl_some.2 ⟨n, bclF_sound hok n h⟩

end
end Go.Abs
