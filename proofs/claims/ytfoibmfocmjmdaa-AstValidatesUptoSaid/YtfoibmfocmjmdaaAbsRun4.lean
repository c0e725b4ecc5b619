/- Rules for regions that draw their order, where something changes the heap. -/
import Derived.Test.YtfoibmfocmjmdaaAbsRun3
set_option linter.unusedVariables false
set_option linter.unusedSimpArgs false
set_option linter.all false
set_option linter.deprecated false
namespace Go.Abs
section
variable {c : ACtx} {call : FuncId → AFun} {f nt : Nat} {env e : AEnv} {A A0 A' : AHeap} {rs : List ResultVar} {F : AF} {ks : List KF} {P : Program}
variable {d s t u i j n off id : Nat} {x y z : Operand} {v w : AV} {ty : TypeId} {pos : String} {after : Array Edge} {g : Option (Nat × Bool)} {w' : Bool}

/-! ### what an operation looks at -/
@[go_sem] theorem us_move {dst : Option Tmp} : auses env f c ⟨dst, .move x, ty, pos, after, g⟩ = (false, false) := by rfl
@[go_sem] theorem us_assign {dst : Option Tmp} : auses env f c ⟨dst, .assign x, ty, pos, after, g⟩ = (false, false) := by rfl
@[go_sem] theorem us_pick {dst : Option Tmp} : auses env f c ⟨dst, .pick x y z, ty, pos, after, g⟩ = (false, false) := by rfl
@[go_sem] theorem us_build {dst : Option Tmp} {ps} : auses env f c ⟨dst, .build t ps, ty, pos, after, g⟩ = (false, false) := by rfl
@[go_sem] theorem us_nilCheck {dst : Option Tmp} : auses env f c ⟨dst, .nilCheck x, ty, pos, after, g⟩ = (false, false) := by rfl
@[go_sem] theorem us_binOp {dst : Option Tmp} {op} : auses env f c ⟨dst, .binOp op t x y u, ty, pos, after, g⟩ = (false, false) := by rfl
@[go_sem] theorem us_unOp {dst : Option Tmp} {op} : auses env f c ⟨dst, .unOp op t x, ty, pos, after, g⟩ = (false, false) := by rfl
@[go_sem] theorem us_convert {dst : Option Tmp} : auses env f c ⟨dst, .convert s t x, ty, pos, after, g⟩ = (false, false) := by rfl
@[go_sem] theorem us_makeFunc {dst : Option Tmp} {fn a b} : auses env f c ⟨dst, .makeFunc fn a b, ty, pos, after, g⟩ = (false, false) := by rfl
@[go_sem] theorem us_slice {dst : Option Tmp} {a b d} : auses env f c ⟨dst, .slice t x a b d, ty, pos, after, g⟩ = (false, false) := by rfl
@[go_sem] theorem us_field {dst : Option Tmp} : auses env f c ⟨dst, .field t x i, ty, pos, after, g⟩ = (false, false) := by rfl
@[go_sem] theorem us_index {dst : Option Tmp} : auses env f c ⟨dst, .index t x y, ty, pos, after, g⟩ = (false, false) := by rfl
@[go_sem] theorem us_extract {dst : Option Tmp} : auses env f c ⟨dst, .extract x i, ty, pos, after, g⟩ = (false, false) := by rfl
@[go_sem] theorem us_fieldAddr {dst : Option Tmp} : auses env f c ⟨dst, .fieldAddr t x i, ty, pos, after, g⟩ = (false, false) := by rfl
def usL (p : Option (Nat × Nat)) (v : Option AV) : Bool × Bool := match p, v with
    | some _, _ => (false, false)
    | none, some (.sptr _) => (false, false)
    | none, some (.ptr _ _) => (true, false)
    | none, some (.eptr _ _ _ _) => (false, true)
    | _, _ => (true, true)
@[go_sem] theorem us_load {dst : Option Tmp} : auses env f c ⟨dst, .load t x, ty, pos, after, g⟩ = usL (aplace env x) (aeval env x) := by rfl
@[go_sem] theorem usL_some {p : Nat × Nat} {o : Option AV} : usL (some p) o = (false, false) := by cases o <;> rfl
@[go_sem] theorem usL_sptr {ds : List Dat} : usL none (some (.sptr ds)) = (false, false) := by rfl
@[go_sem] theorem usL_ptr : usL none (some (.ptr id off)) = (true, false) := by rfl
@[go_sem] theorem usL_eptr {a b c d : Nat} : usL none (some (.eptr a b c d)) = (false, true) := by rfl
def usS (p : Option (Nat × Nat)) (v : Option AV) : Bool × Bool := match p, v with
    | some _, _ => (false, false)
    | none, some (.ptr _ _) => (true, false)
    | none, some (.eptr _ _ _ _) => (false, true)
    | _, _ => (true, true)
@[go_sem] theorem us_store {dst : Option Tmp} : auses env f c ⟨dst, .store t x y, ty, pos, after, g⟩ = usS (aplace env x) (aeval env x) := by rfl
@[go_sem] theorem usS_some {p : Nat × Nat} {o : Option AV} : usS (some p) o = (false, false) := by cases o <;> rfl
@[go_sem] theorem usS_ptr : usS none (some (.ptr id off)) = (true, false) := by rfl
@[go_sem] theorem usS_eptr {a b c d : Nat} : usS none (some (.eptr a b c d)) = (false, true) := by rfl
@[go_sem] theorem us_alloc : auses env f c ⟨some d, .alloc t, ty, pos, after, g⟩ = ((c.esc f).contains d, false) := by rfl
@[go_sem] theorem us_box : auses env f c ⟨some d, .box t x, ty, pos, after, g⟩ = ((c.esc f).contains d, false) := by rfl
def usI (v : Option AV) : Bool × Bool := match v with
    | some (.own _ _) => (false, true)
    | _ => (false, false)
@[go_sem] theorem us_indexAddr {dst : Option Tmp} : auses env f c ⟨dst, .indexAddr t x y, ty, pos, after, g⟩ = usI (aeval env x) := by rfl
@[go_sem] theorem usI_own {a b : Nat} : usI (some (.own a b)) = (false, true) := by rfl
@[go_sem] theorem usI_d {a : Dat} : usI (some (.d a)) = (false, false) := by rfl
@[go_sem] theorem usI_full {a : List (List Dat)} : usI (some (.full a)) = (false, false) := by rfl
@[go_sem] theorem usI_nilS : usI (some .nilS) = (false, false) := by rfl
def usB (v : Option (List (Nat × AV))) : Bool × Bool := match v with
    | some ps => (false, !(ps.all fun p => p.2.cells.all AV.ownfree))
    | none => (true, true)
@[go_sem] theorem us_buildSlice {dst : Option Tmp} {ps} : auses env f c ⟨dst, .buildSlice t n ps, ty, pos, after, g⟩ = usB (aparts env ps.toList) := by rfl
@[go_sem] theorem usB_some {ps : List (Nat × AV)} : usB (some ps) = (false, !(ps.all fun p => p.2.cells.all AV.ownfree)) := by rfl
@[go_sem] theorem ownfree_d {a : Dat} : (AV.d a).ownfree = true := by rfl
@[go_sem] theorem ownfree_full {a : List (List Dat)} : (AV.full a).ownfree = true := by rfl
@[go_sem] theorem ownfree_nilS : AV.nilS.ownfree = true := by rfl
@[go_sem] theorem us_call {dst : Option Tmp} {h : Operand} {args ts} : auses env f c ⟨dst, .call ⟨.value h, args, ts⟩, ty, pos, after, g⟩ = (true, true) := by rfl
@[go_sem] theorem us_append {dst : Option Tmp} {args ts} : auses env f c ⟨dst, .call ⟨.builtin .append, args, ts⟩, ty, pos, after, g⟩ = (false, true) := by rfl
@[go_sem] theorem us_max {dst : Option Tmp} {args ts} : auses env f c ⟨dst, .call ⟨.builtin .max, args, ts⟩, ty, pos, after, g⟩ = (false, false) := by rfl
@[go_sem] theorem us_min {dst : Option Tmp} {args ts} : auses env f c ⟨dst, .call ⟨.builtin .min, args, ts⟩, ty, pos, after, g⟩ = (false, false) := by rfl
def usN (v : Option (List AV)) : Bool × Bool := match v with
      | some [.mapr _] => (true, false)
      | some _ => (false, false)
      | none => (true, true)
@[go_sem] theorem us_len {dst : Option Tmp} {args ts} : auses env f c ⟨dst, .call ⟨.builtin .len, args, ts⟩, ty, pos, after, g⟩ = usN (aevals env args.toList) := by rfl
@[go_sem] theorem usN_d {a : Dat} : usN (some [.d a]) = (false, false) := by rfl
@[go_sem] theorem usN_own {a b : Nat} : usN (some [.own a b]) = (false, false) := by rfl
@[go_sem] theorem usN_full {a : List (List Dat)} : usN (some [.full a]) = (false, false) := by rfl
@[go_sem] theorem usN_nilS : usN (some [.nilS]) = (false, false) := by rfl
@[go_sem] theorem usN_mapr : usN (some [.mapr id]) = (true, false) := by rfl

/-! ### the run of a drawn region, with marks -/
noncomputable def ct (F : AF) (ks : List KF) (ops : Array Oper) (i : Nat) (rest : List Oper) (env : AEnv) (A : AHeap) (ms : List AMark) : Option (AV × AHeap) :=
  (atrace F.c.noesc (acl F.c) F.f F.nt ops i rest env A).bind fun r => open Classical in
    if adrawn ops (ms ++ r.2) then ckn F ks (apromote (F.c.esc F.f) ops.toList r.1.1 r.1.2).1 (apromote (F.c.esc F.f) ops.toList r.1.1 r.1.2).2 else none
@[congr] theorem ct_congr {ops : Array Oper} {rest : List Oper} {ms : List AMark} (h : env = e) (h' : A = A') : ct F ks ops i rest env A ms = ct F ks ops i rest e A' ms := by rw [h, h']
theorem k_drawn_t {l : List Oper} : cek F ks (.region id l.toArray true) env A = ct F ks l.toArray 0 l (noPlaces (atrim F.c F.f (some id) env)) A [] := by
  rw [cek_region]
  unfold ct cokr aregion
  simp only [if_true, List.nil_append, Option.bind_assoc]
  cases atrace F.c.noesc (acl F.c) F.f F.nt l.toArray 0 l (noPlaces (atrim F.c F.f (some id) env)) A with
  | none => rfl
  | some r =>
    simp only [Option.bind_some]
    split <;> rfl
/-- behind one operation -/
noncomputable def ctS (F : AF) (ks : List KF) (ops : Array Oper) (i : Nat) (rest : List Oper) (A : AHeap) (ms : List AMark) (us : Bool × Bool) (px : Bool) (r : Option (AEnv × AHeap)) : Option (AV × AHeap) :=
  r.bind fun r => ct F ks ops (i + 1) rest r.1 r.2 (ms ++ [⟨i, us, px, r.2.objs ≠ A.objs, r.2.bufs ≠ A.bufs⟩])
@[congr] theorem ctS_congr {ops : Array Oper} {rest : List Oper} {ms : List AMark} {us us' : Bool × Bool} {px px' : Bool} {r r' : Option (AEnv × AHeap)} (h1 : us = us') (h2 : px = px') (h3 : r = r') :
    ctS F ks ops i rest A ms us px r = ctS F ks ops i rest A ms us' px' r' := by rw [h1, h2, h3]
@[go_sem] theorem ctS_some {ops : Array Oper} {rest : List Oper} {ms : List AMark} {us : Bool × Bool} {px : Bool} :
    ctS F ks ops i rest A ms us px (some (e, A')) = ct F ks ops (i + 1) rest e A' (ms ++ [⟨i, us, px, A'.objs ≠ A.objs, A'.bufs ≠ A.bufs⟩]) := by rfl
@[go_sem low] theorem ct_cons {ops : Array Oper} {dst : Option Tmp} {op : Op} {rest : List Oper} {ms : List AMark} :
    ct F ks ops i (⟨dst, op, ty, pos, after, none⟩ :: rest) env A ms = ctS F ks ops i rest A ms (auses env F.f F.c.noesc ⟨dst, op, ty, pos, after, none⟩) (pstore env ⟨dst, op, ty, pos, after, none⟩) (aop F.c.noesc (acl F.c) F.f F.nt ⟨dst, op, ty, pos, after, none⟩ env A) := by
  unfold ctS ct
  simp only [atrace, aguard, Option.bind_some, if_true]
  cases aop F.c.noesc (acl F.c) F.f F.nt ⟨dst, op, ty, pos, after, none⟩ env A with
  | none => rfl
  | some r =>
    simp only [Option.bind_some]
    cases atrace F.c.noesc (acl F.c) F.f F.nt ops (i + 1) rest r.1 r.2 with
    | none => rfl
    | some q =>
      simp only [Option.map_some, Option.bind_some]
      rw [List.append_assoc]
      rfl
@[go_sem] theorem ct_slot {ops : Array Oper} {dst : Option Tmp} {op : Op} {rest : List Oper} {ms : List AMark} (h : isSlot op = true) :
    ct F ks ops i (⟨dst, op, ty, pos, after, none⟩ :: rest) env A ms = ctS F ks ops i rest A ms (auses env F.f F.c.noesc ⟨dst, op, ty, pos, after, none⟩) false (aputS F.nt dst env (aslot F.c.noesc (acl F.c) env A op)) := by
  rw [ct_cons, aop_slot h, pstore_slot h]
/-- the end of the region: is the order of no account? -/
noncomputable def ctE (F : AF) (ks : List KF) (ops : Array Oper) (env : AEnv) (A : AHeap) (ms : List AMark) : Option (AV × AHeap) :=
  open Classical in if adrawn ops ms then ckn F ks (apromote (F.c.esc F.f) ops.toList env A).1 (apromote (F.c.esc F.f) ops.toList env A).2 else none
@[congr] theorem ctE_congr {ops : Array Oper} {ms : List AMark} (h : env = e) (h' : A = A') : ctE F ks ops env A ms = ctE F ks ops e A' ms := by rw [h, h']
@[go_sem] theorem ct_nil {ops : Array Oper} {ms : List AMark} : ct F ks ops i [] env A ms = ctE F ks ops env A ms := by
  unfold ct ctE
  simp only [atrace, Option.bind_some]
  rw [List.append_nil]

structure BM where
  i : Nat
  u : Bool × Bool
  px : Bool
  co : Bool
  cb : Bool
def adrawnB (ops : Array Oper) (ms : List BM) : Bool :=
  ms.all fun m => (ms.all fun m' => m.i == m'.i || !((m.co && m'.u.1) || (m.cb && m'.u.2)) || aord ops m.i m'.i) && (!m.px || (List.range ops.size).all fun j => j == m.i || aord ops m.i j)
/-- marks, and what they are at most -/
inductive MLe : List AMark → List BM → Prop where
  | nil : MLe [] []
  | q {i u px ms bs} {A : AHeap} (h : MLe ms bs) : MLe (⟨i, u, px, A.objs ≠ A.objs, A.bufs ≠ A.bufs⟩ :: ms) (⟨i, u, px, false, false⟩ :: bs)
  | o {i u px ms bs} {o o' : List AObj} {b : List ABuf} (h : MLe ms bs) : MLe (⟨i, u, px, o' ≠ o, b ≠ b⟩ :: ms) (⟨i, u, px, true, false⟩ :: bs)
  | b {i u px ms bs} {b b' : List ABuf} {o : List AObj} (h : MLe ms bs) : MLe (⟨i, u, px, o ≠ o, b' ≠ b⟩ :: ms) (⟨i, u, px, false, true⟩ :: bs)
  | l {i u px ms bs} {p p' : Prop} (h : MLe ms bs) : MLe (⟨i, u, px, p, p'⟩ :: ms) (⟨i, u, px, true, true⟩ :: bs)
theorem MLe.mem {ms : List AMark} {bs : List BM} (h : MLe ms bs) : ∀ m ∈ ms, ∃ b ∈ bs, b.i = m.i ∧ b.u = m.u ∧ b.px = m.px ∧ (m.co → b.co = true) ∧ (m.cb → b.cb = true) := by
  induction h with
  | nil => intro m hm; cases hm
  | q h ih =>
    intro m hm
    rcases List.mem_cons.1 hm with rfl | hm
    · exact ⟨_, List.mem_cons_self .., rfl, rfl, rfl, fun x => absurd rfl x, fun x => absurd rfl x⟩
    · obtain ⟨b, hb, hx⟩ := ih m hm; exact ⟨b, List.mem_cons_of_mem _ hb, hx⟩
  | o h ih =>
    intro m hm
    rcases List.mem_cons.1 hm with rfl | hm
    · exact ⟨_, List.mem_cons_self .., rfl, rfl, rfl, fun _ => rfl, fun x => absurd rfl x⟩
    · obtain ⟨b, hb, hx⟩ := ih m hm; exact ⟨b, List.mem_cons_of_mem _ hb, hx⟩
  | b h ih =>
    intro m hm
    rcases List.mem_cons.1 hm with rfl | hm
    · exact ⟨_, List.mem_cons_self .., rfl, rfl, rfl, fun x => absurd rfl x, fun _ => rfl⟩
    · obtain ⟨b, hb, hx⟩ := ih m hm; exact ⟨b, List.mem_cons_of_mem _ hb, hx⟩
  | l h ih =>
    intro m hm
    rcases List.mem_cons.1 hm with rfl | hm
    · exact ⟨_, List.mem_cons_self .., rfl, rfl, rfl, fun _ => rfl, fun _ => rfl⟩
    · obtain ⟨b, hb, hx⟩ := ih m hm; exact ⟨b, List.mem_cons_of_mem _ hb, hx⟩
theorem adrawn_of_B {ops : Array Oper} {ms : List AMark} {bs : List BM} (h : MLe ms bs) (hb : adrawnB ops bs = true) : adrawn ops ms := by
  simp only [adrawnB, List.all_eq_true, Bool.and_eq_true, Bool.or_eq_true, Bool.not_eq_true', beq_iff_eq] at hb
  refine ⟨fun m hm m' hm' hne hx => ?_, fun m hm hp j hj hne => ?_⟩
  · obtain ⟨b, hb1, e1, e2, e3, e4, e5⟩ := h.mem m hm
    obtain ⟨b', hb1', e1', e2', e3', e4', e5'⟩ := h.mem m' hm'
    have := (hb b hb1).1 b' hb1'
    rw [e1, e1', e2'] at this
    rcases this with (hi | hn) | ho
    · exact absurd hi hne
    · exfalso
      rcases hx with ⟨hc, hu⟩ | ⟨hc, hu⟩
      · rw [e4 hc, hu] at hn; simp at hn
      · rw [e5 hc, hu] at hn; simp at hn
    · exact ho
  · obtain ⟨b, hb1, e1, e2, e3, e4, e5⟩ := h.mem m hm
    have := (hb b hb1).2
    rw [e3, hp, e1] at this
    rcases this with hc | hr
    · cases hc
    · rcases hr j (List.mem_range.2 hj) with hi | ho
      · exact absurd hi hne
      · exact ho
theorem ctE_ok {ops : List Oper} {ms : List AMark} {bs : List BM} (h : MLe ms bs) (hb : adrawnB ops.toArray bs = true) :
    ctE F ks ops.toArray env A ms = ckn F ks (apromote (F.c.esc F.f) ops env A).1 (apromote (F.c.esc F.f) ops env A).2 := by
  unfold ctE
  rw [if_pos (adrawn_of_B h hb)]

/-! ### slices that grow from call to call -/
theorem List.take_modify_front {α : Type} (f : α → α) : ∀ (l m : List α), ((l ++ m).modify l.length f).take l.length = l
  | [], m => by simp
  | x :: l, m => by simp [List.modify_succ_cons, List.take_modify_front f l m]
theorem agrow_nil (A : AHeap) (e sz : Nat) : agrow A e sz [] = (.nilS, A) := by rfl
theorem alen_grow {e sz : Nat} {rows : List (List Dat)} : alen A' 2 (agrow A e sz rows).1 = some rows.length := by
  unfold agrow
  split
  · rename_i h; subst h; rfl
  · rfl
theorem one_grow {e sz : Nat} {rows : List (List Dat)} : (agrow A e sz rows).1.one = true := by
  unfold agrow
  split <;> rfl
@[go_sem low] theorem asv2_pair {p : AV × AHeap} : asv2 (some p) = some (.v p.1, p.2) := by rfl
theorem k_call_own {fn : Func} {code : Code} {args : List AV} (hg : c.ext f = none) (hf : c.P.funcs[f]? = some fn) (hb : fn.body = some code) (hk : fnOk c.P f = true) (ho : c.own f = true) (hnt : fn.ntmps = nt) {ra : Array ResultVar} (hrs : fn.results = ra)
    (hn : args.length ≤ nt) : acl c f args A = cek ⟨c, f, nt, ra.toList, A⟩ [] code (aenter 0 args) A := by
  subst hnt; subst hrs
  rw [acl_eq hg hf hb hk hn]
  simp only [ho, if_true]
  unfold cek afinK afinR aplug
  congr 1
theorem afin_grow {e sz : Nat} {rows rows' : List (List Dat)} (ho : c.own f = true) (h : rows = [] ∨ rows' ≠ []) :
    afinR c f (agrow A e sz rows).2 (agrow A e sz rows').2 (some (agrow A e sz rows').1) = some (agrow A e sz rows') := by
  simp only [afinR, Option.map_some, afinish, ho, if_true]
  unfold agrow
  by_cases h1 : rows = []
  · subst h1
    by_cases h2 : rows' = []
    · subst h2
      simp only [if_true]
      rw [acut_same rfl]
    · simp only [if_true, if_neg h2]
      unfold acut
      simp [AV.noptr, AV.noptr2, AV.noptr1]
  · have h2 : ¬ rows' = [] := by rcases h with h | h; exact absurd h h1; exact h
    simp only [if_neg h1, if_neg h2]
    unfold acut
    simp [AV.noptr, AV.noptr2, AV.noptr1]
    rw [List.take_of_length_le (by simp)]
/-- the grown slice is handed out, and nobody owns it any more -/
theorem afin_grown {e sz : Nat} {rows : List (List Dat)} (ho : c.own f = false) : afinR c f A (agrow A e sz rows).2 (some (agrow A e sz rows).1) = some (.d (.slice rows), A) := by
  simp only [afinR, Option.map_some, afinish, ho, Bool.false_eq_true, if_false]
  unfold agrow
  by_cases h1 : rows = []
  · subst h1
    simp only [if_true, acleanR, acleanV, aclean]
    rw [acut_same rfl]
  · simp only [if_neg h1, acleanR, acleanV, aclean, arows]
    simp only [List.getElem?_append_right (Nat.le_refl _), Nat.sub_self, List.getElem?_cons_zero, if_true]
    unfold acut
    simp [AHeap.freeze, AV.noptr, AV.noptr2, AV.noptr1]
    rw [List.take_modify_front]
end
end Go.Abs
