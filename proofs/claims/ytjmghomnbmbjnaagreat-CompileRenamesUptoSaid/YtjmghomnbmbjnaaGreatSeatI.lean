/- A range over a function: the nodes of an expression. -/
import Derived.RangeFuncNested
import Derived.RangeFuncBound
import Derived.RangeFuncCalls
import Derived.RangeFuncLeaves
import Derived.Shelf.Abstract
import Derived.Shelf.RegionOpen
import Derived.WalkKit
import Derived.OwnWalkIn
import Derived.TacticsInMore
import Derived.LoopNIn
import Derived.LoopIn
import Derived.Test.YtjmghomnbmbjnaaGreatProg
import Derived.Test.YtjmghomnbmbjnaaGreatGenC
import Derived.Test.YtjmghomnbmbjnaaGreatGenB
import Derived.Test.YtjmghomnbmbjnaaGreatGenD
set_option linter.unusedVariables false
set_option linter.unusedSimpArgs false
set_option linter.all false
set_option linter.deprecated false
set_option linter.all false
namespace Go.Proofs.YtjmghomnbmbjnaaGreat
open Go.RowKit Go.Shelf
open Go.Abs (E RelD Dat Bytes)
attribute [local go_sem] Oper.semAt_some
theorem room_of_none {F : Fence} (hd : F.depth = none) (k : Nat) : F.room k := fun d h => by rw [hd] at h; cases h
theorem RoundIn.anyDepth {F : Fence} (hd : F.depth = none) {m m' : Nat} {P : Program} {l : Nat} {f : FuncId} {tmps : Array Value} {assign body : Code} {w : World} {R : Ending → World → Prop}
    (h : RoundIn F m P l f tmps assign body w R) : RoundIn F m' P l f tmps assign body w R := ⟨h.1, fun c cs _ => h.2 c cs (room_of_none hd _)⟩
theorem YieldAt.anyDepth {F : Fence} (hd : F.depth = none) {m : Nat} (m' : Nat) {P : Program} {l : Nat} {args : Array Value} {W : World} {R : Ending → World → Prop} (h : YieldAt F m P l args W R) : YieldAt F m' P l args W R := by
  obtain ⟨fn, tmps, assign, body, hy, hR⟩ := h
  exact ⟨fn, tmps, assign, body, hy, RoundIn.anyDepth hd hR⟩
structure Nd where
  op : Int
  n : Int
  s : ByteArray
  a : Option Addr
  len : Nat
  cap : Nat
def Nd.val (x : Nd) : Value := .agg #[.int .i64 x.op, .int .i64 x.n, .string x.s, .slice x.a x.len x.cap]
mutual
def opsE : E → List Int
  | .mk op _ _ args => op :: opsEs args
def opsEs : List E → List Int
  | [] => []
  | x :: l => opsE x ++ opsEs l
end
theorem opsEs_append : ∀ (l m : List E), opsEs (l ++ m) = opsEs l ++ opsEs m
  | [], m => rfl
  | x :: l, m => by simp only [List.cons_append, opsEs, opsEs_append l m, List.append_assoc]
theorem opsEs_split : ∀ (l : List E) (k : Nat) (h : k < l.length), opsEs l = opsEs (l.take k) ++ (opsE l[k] ++ opsEs (l.drop (k + 1)))
  | x :: l, 0, h => by simp [opsEs]
  | x :: l, k + 1, h => by
    have := opsEs_split l k (by simpa using h)
    simp only [opsEs, List.take_succ_cons, List.getElem_cons_succ, List.drop_succ_cons]
    rw [this]
    simp
structure BelS (S : Nat → Prop) (w w' : World) : Prop where
  os : w'.os = w.os
  tape : w'.tape = w.tape
  output : w'.output = w.output
  size : w.heap.size ≤ w'.heap.size
  block : ∀ k, S k → w'.heap[k]? = w.heap[k]?
theorem BelS.trans {S : Nat → Prop} {a b c : World} (h : BelS S a b) (k : BelS S b c) : BelS S a c :=
  ⟨k.os.trans h.os, k.tape.trans h.tape, k.output.trans h.output, Nat.le_trans h.size k.size, fun i hi => (k.block i hi).trans (h.block i hi)⟩
theorem BelS.refl (S : Nat → Prop) (a : World) : BelS S a a := ⟨rfl, rfl, rfl, Nat.le_refl _, fun _ _ => rfl⟩
theorem BelS.of {S : Nat → Prop} {n : Nat} {a b : World} (h : Below n a b) (hS : ∀ k, S k → k < n) : BelS S a b := ⟨h.os, h.tape, h.output, h.size, fun k hk => h.block k (hS k hk)⟩
def bel (S : Nat → Prop) : Nat → Nat → Prop := fun b _ => S b
structure IsE (S : Nat → Prop) (W : World) (e : E) (x : Nd) : Prop where
  op : x.op = e.op
  n : x.n = e.n
  s : x.s.data.toList = e.s
  c3 : RelD W (bel S) (.slice (e.args.map E.row)) (.slice x.a x.len x.cap)
theorem below_relD {S : Nat → Prop} {A B : World} (h : BelS S A B) {d : Dat} {v : Value} (r : RelD A (bel S) d v) : RelD B (bel S) d v :=
  r.mono fun b o hb => ⟨hb, by simp only [World.cell?, h.block b hb]⟩
theorem IsE.below {S : Nat → Prop} {A B : World} (h : BelS S A B) {e : E} {x : Nd} (r : IsE S A e x) : IsE S B e x := ⟨r.op, r.n, r.s, below_relD h r.c3⟩
theorem IsE.form {S : Nat → Prop} {W : World} {e : E} {x : Nd} (r : IsE S W e x) : x.len = e.args.length := by
  have h := r.c3
  generalize hr : e.args.map E.row = rows at h
  generalize hv : Value.slice x.a x.len x.cap = v at h
  cases h with
  | empty a cap =>
    injection hv with _ h2 _
    have := congrArg List.length hr
    rw [h2]
    simpa using this.symm
  | slice _ b o cap sz val hcap hlen hcell hval =>
    injection hv with _ h2 _
    rw [h2, ← hr, List.length_map]
theorem opsE_pos (e : E) : 1 ≤ (opsE e).length := by cases e; simp [opsE]
theorem opsEs_len : ∀ l : List E, l.length ≤ (opsEs l).length
  | [] => Nat.le_refl _
  | x :: l => by
    have h1 := opsE_pos x
    have h2 := opsEs_len l
    simp only [opsEs, List.length_append, List.length_cons]
    omega
theorem IsE.child {S : Nat → Prop} {W : World} {e : E} {x : Nd} (r : IsE S W e x) (hne : e.args ≠ []) : ∃ b o, x.a = some ⟨b, o, none⟩ ∧ S b ∧ ∀ (i : Nat) (y : E), e.args[i]? = some y →
    ∃ z : Nd, IsE S W y z ∧ W.cell? ⟨b, o + i * 4, none⟩ = some (.int .i64 z.op) ∧ W.cell? ⟨b, o + i * 4 + 1, none⟩ = some (.int .i64 z.n) ∧ W.cell? ⟨b, o + i * 4 + 2, none⟩ = some (.string z.s) ∧ W.cell? ⟨b, o + i * 4 + 3, none⟩ = some (.slice z.a z.len z.cap) := by
  have h := r.c3
  generalize hr : e.args.map E.row = rows at h
  generalize hv : Value.slice x.a x.len x.cap = v at h
  cases h with
  | empty a cap => exact absurd (by simpa using hr) hne
  | slice _ b o cap sz val hcap hlen hcell hval =>
    injection hv with hv1 hv2 hv3
    have hsz : sz = 4 := by
      cases ha : e.args with
      | nil => exact absurd ha hne
      | cons y l =>
        have := hlen 0 (E.row y) (by rw [← hr, ha]; rfl)
        rw [← this]
        cases y; rfl
    subst hsz
    have hb : S b := by
      cases ha : e.args with
      | nil => exact absurd ha hne
      | cons y l => exact (hcell 0 0 (E.row y) (.int .i64 y.op) (by rw [← hr, ha]; rfl) (by cases y; rfl)).1
    refine ⟨b, o, hv1, hb, fun i y hy => ?_⟩
    have hrow : rows[i]? = some (E.row y) := by rw [← hr, List.getElem?_map, hy]; rfl
    have g0 : (E.row y)[0]? = some (.int .i64 y.op) := by cases y; rfl
    have g1 : (E.row y)[1]? = some (.int .i64 y.n) := by cases y; rfl
    have g2 : (E.row y)[2]? = some (.str y.s) := by cases y; rfl
    have g3 : (E.row y)[3]? = some (.slice (y.args.map E.row)) := by rw [E.row_eq]; rfl
    have v0 : val i 0 = .int .i64 y.op := by have := hval i 0 _ _ hrow g0; generalize val i 0 = q at this; cases this; rfl
    have v1 : val i 1 = .int .i64 y.n := by have := hval i 1 _ _ hrow g1; generalize val i 1 = q at this; cases this; rfl
    have v2 : ∃ s : ByteArray, val i 2 = .string s ∧ s.data.toList = y.s := by
      have := hval i 2 _ _ hrow g2
      generalize val i 2 = q at this ⊢
      generalize y.s = ys at this ⊢
      cases this with
      | str s => exact ⟨s, rfl, rfl⟩
    have v3 : ∃ a len cap, val i 3 = .slice a len cap := by
      have := hval i 3 _ _ hrow g3
      generalize val i 3 = q at this ⊢
      generalize y.args.map E.row = rr at this
      cases this with
      | empty a cap => exact ⟨a, 0, cap, rfl⟩
      | slice _ b o cap sz val hcap hlen hcell hval => exact ⟨_, _, _, rfl⟩
    obtain ⟨zs, v2, hzs⟩ := v2
    obtain ⟨za, zl, zc, v3⟩ := v3
    have h0 := (hcell i 0 _ _ hrow g0).2
    have h1 := (hcell i 1 _ _ hrow g1).2
    have h2 := (hcell i 2 _ _ hrow g2).2
    have h3 := (hcell i 3 _ _ hrow g3).2
    have r3 := hval i 3 _ _ hrow g3
    rw [v0] at h0
    rw [v1] at h1
    rw [v2] at h2
    rw [v3] at h3 r3
    exact ⟨⟨y.op, y.n, zs, za, zl, zc⟩, ⟨rfl, rfl, hzs, r3⟩, h0, h1, h2, h3⟩
structure Kp (S : Nat → Prop) (n₁ : Nat) (A B : World) : Prop where
  low : BelS S A B
  own : ∀ (k : Nat) (o : Obj), n₁ ≤ k → A.heap[k]? = some o → o.isCells = true → B.heap[k]? = some o
theorem Kp.trans {S : Nat → Prop} {n₁ : Nat} {A B C : World} (h : Kp S n₁ A B) (k : Kp S n₁ B C) : Kp S n₁ A C := ⟨h.low.trans k.low, fun i o hi ho hc => k.own i o hi (h.own i o hi ho hc) hc⟩
theorem Kp.of_below {S : Nat → Prop} {n₁ : Nat} {A B : World} (h : Below A.heap.size A B) (hn : ∀ k, S k → k < A.heap.size) : Kp S n₁ A B := ⟨BelS.of h hn, fun k o _ ho _ => by
  have hk : k < A.heap.size := by
    rcases Nat.lt_or_ge k A.heap.size with h' | h'
    · exact h'
    · rw [Array.getElem?_eq_none h'] at ho; cases ho
  rw [h.block k hk]; exact ho⟩
theorem Kp.cell {S : Nat → Prop} {n₁ : Nat} {A B : World} (h : Kp S n₁ A B) {a : Addr} {v : Value} (hn : n₁ ≤ a.block) (hc : A.cell? a = some v) : B.cell? a = some v := by
  obtain ⟨o, ho, hcc⟩ := cells_of_cell hc
  have := h.own _ o hn ho hcc
  unfold World.cell? at hc ⊢
  rw [this]
  rw [ho] at hc
  exact hc
theorem abides_below {β : Type} {B : Nat} {J : β → World → Prop} (h : AbidesFrom B J) {s : β} {A C : World} (hj : J s A) (hb : Below A.heap.size A C) : J s C :=
  h s A C none hj ⟨hb.os, hb.tape, hb.output, hb.size, fun k hk _ => hb.block k hk⟩ (fun r e => by cases e)
set_option maxRecDepth 100000 in
set_option maxHeartbeats 2000000 in
theorem visit_in (F : Fence) (hd : F.depth = none) (h40 : F.fn 139) (hro : F.round = none) (l : Nat) (S : Nat → Prop) (n₁ N : Nat) (J Jx : List Nd → World → Prop) (Bj : Nat) (hJ : AbidesFrom Bj J) (hNb : N ≤ 1099511627776)
    (hY : ∀ m pre x W, J pre W → pre.length < N → YieldAt F m Tryz.prog l #[x.val] W fun e W' =>
      (e = .returned (.bool true) ∧ J (pre ++ [x]) W' ∧ Kp S n₁ W W') ∨ (e = .returned (.bool false) ∧ Jx (pre ++ [x]) W')) (e : E) :
    ∀ (n : Nat) (x : Nd) (pre : List Nd) (W : World), (∀ k, S k → k < W.heap.size) → n₁ ≤ W.heap.size → IsE S W e x → J pre W → pre.length + (opsE e).length ≤ N →
      CallsIn F n Tryz.prog 139 #[x.val, .func (.yield l) #[] #[]] W fun en W' =>
        (en = .returned (.bool true) ∧ (∃ ys, ys.map Nd.op = opsE e ∧ J (pre ++ ys) W') ∧ Kp S n₁ W W') ∨ (en = .returned (.bool false) ∧ ∃ q, q.map Nd.op <+: opsE e ∧ Jx (pre ++ q) W') := by
  induction e using Go.Abs.E.ind with
  | h op nn s args ih =>
    intro n x pre W hn₀ hn₁ hE hJ0 hN
    have hdd : ∀ k : Nat, (F.depth.isSome = true → 1 ≤ k) := fun k h => by rw [hd] at h; cases h
    obtain ⟨xop, xn, xs, sa, len, cap⟩ := x
    have hop : xop = op := hE.op
    subst hop
    have hlen0 : len = args.length := hE.form
    subst hlen0
    refine callsIn_of_wp Tryz.func139 rfl h40 ?_ hro
    simp only [Tryz.ntmps139, List.size_toArray, List.length_cons, List.length_nil, Nat.reduceAdd, Nat.reduceSub, Array.replicate_succ, Array.replicate_zero, List.push_toArray, List.append_toArray, List.nil_append, List.cons_append]
    have hbox : Below W.heap.size W (W.alloc (.cells #[.int .i64 xop, .int .i64 xn, .string xs, .slice sa args.length cap] 50)) := (Below.refl _ W).alloc (Nat.le_refl _) _
    have hJ1 := abides_below hJ hJ0 hbox
    have hl1 : pre.length < N := by simp only [opsE, List.length_cons] at hN; omega
    have hY1 := hY (n - 1) pre ⟨xop, xn, xs, sa, args.length, cap⟩ _ hJ1 hl1
    obtain ⟨fn, tmps, assign, body, hy, hR⟩ := hY1
    dsimp only [Nd.val] at hy ⊢
    have hb0 : (W.alloc (.cells #[.int .i64 xop, .int .i64 xn, .string xs, .slice sa args.length cap] 50)).cell? ⟨W.heap.size, 3, none⟩ = some (.slice sa args.length cap) := by have := World.alloc_heap_new W (.cells #[.int .i64 xop, .int .i64 xn, .string xs, .slice sa args.length cap] 50); unfold World.cell?; rw [this]; rfl
    have hlen : args.length ≤ 1099511627776 := by have := opsEs_len args; simp only [opsE, List.length_cons] at hN; omega
    gi_wp2_with (first
      | ((try refine ⟨hdd _, ?_⟩); refine hR.mono ?_; clear hR; rintro en W2 (⟨rfl, hJ2, hk2⟩ | ⟨rfl, hx2⟩); have hb2 := hk2.cell (a := ⟨W.heap.size, 3, none⟩) hn₁ hb0))
    · gi_loopw [14] (fun i wr => ∃ k : Nat, k ≤ args.length ∧ i = .int .i64 k ∧ (∃ ys, ys.map Nd.op = xop :: opsEs (args.take k) ∧ J (pre ++ ys) wr) ∧ Kp S n₁ W wr)
        (fun i _ => args.length - (intOf i).toNat)
      case atStart => exact ⟨0, Nat.zero_le _, rfl, ⟨[⟨xop, xn, xs, sa, args.length, cap⟩], by simp [opsEs], hJ2⟩, (Kp.of_below hbox hn₀).trans hk2⟩
      case round =>
        obtain ⟨k, hk, rfl, ⟨ys, hys, hJs⟩, hkr⟩ := hrel
        by_cases hlt : k < args.length
        · obtain ⟨b, o, hsl, hbn, hch⟩ := (hE.below hkr.low).child (by intro e; simp only [Go.Abs.E.args] at e; rw [e] at hlt; simp at hlt)
          dsimp only [Go.Abs.E.args] at hsl hch
          subst hsl
          obtain ⟨⟨zop, zn, zs, za, zl, zcap⟩, hz, g0, g1, g2, g3⟩ := hch k (args[k]) (List.getElem?_eq_getElem hlt)
          dsimp only at g0 g1 g2 g3
          gi_wp2
          have hal : Below wr.heap.size wr (wr.alloc (.cells #[.int .i64 zop, .int .i64 zn, .string zs, .slice za zl zcap] 50)) := (Below.refl _ wr).alloc (Nat.le_refl _) _
          have hsp := opsEs_split args k hlt
          have hys' := congrArg List.length hys
          have hsp' := congrArg List.length hsp
          simp only [List.length_map, List.length_append, List.length_cons] at hys' hsp'
          have hcall := ih args[k] (List.getElem_mem hlt) (n - 1) ⟨zop, zn, zs, za, zl, zcap⟩ (pre ++ ys) _
            (fun k hk => Nat.lt_of_lt_of_le (hn₀ k hk) (Nat.le_trans hkr.low.size hal.size)) (Nat.le_trans (Nat.le_trans hn₁ hkr.low.size) hal.size) (hz.below (BelS.of hal (fun k hk => Nat.lt_of_lt_of_le (hn₀ k hk) hkr.low.size)))
            (abides_below hJ hJs hal) (by simp only [opsE, List.length_cons] at hN; rw [List.length_append]; omega)
          refine hcall.mono ?_
          rintro en W3 (⟨rfl, ⟨zs', hzs, hJ3⟩, hk3⟩ | ⟨rfl, q, hq, hx3⟩)
          · gi_wp2
            go_roundw
            case rel =>
              refine ⟨k + 1, by omega, by simp, ⟨ys ++ zs', ?_, by rw [← List.append_assoc]; exact hJ3⟩, hkr.trans ((Kp.of_below hal (fun k hk => Nat.lt_of_lt_of_le (hn₀ k hk) hkr.low.size)).trans hk3)⟩
              rw [List.map_append, hys, hzs, List.take_succ_eq_append_getElem hlt, opsEs_append]
              simp [opsEs]
            case measure => simp [intOf]; omega
          · gi_wp2
            refine bodyPost_ret (results_tmp rfl _ _ _) rfl ?_
            refine .inr ⟨rfl, ys ++ q, ?_, by rw [← List.append_assoc]; exact hx3⟩
            rw [List.map_append, hys, opsE, hsp]
            obtain ⟨r, hr⟩ := hq
            exact ⟨r ++ opsEs (args.drop (k + 1)), by rw [← hr]; simp⟩
        · obtain rfl : k = args.length := by omega
          gi_wp2
          go_ret
          refine .inl ⟨rfl, ⟨ys, ?_, hJs⟩, hkr⟩
          rw [hys, List.take_length, opsE]
    · go_ret
      exact .inr ⟨rfl, [⟨xop, xn, xs, sa, args.length, cap⟩], ⟨opsEs args, by simp [opsE]⟩, hx2⟩
end Go.Proofs.YtjmghomnbmbjnaaGreat
set_option linter.all false
namespace Go.Proofs.YtjmghomnbmbjnaaGreat
open Go.RowKit Go.Shelf
open Go.Abs (E RelD Dat Bytes)
attribute [local go_sem] Oper.semAt_some
set_option maxHeartbeats 1000000 in
theorem nodes_in (F : Fence) (n : Nat) (h21 : F.fn 108) (hro : F.round = none) (x : Nd) (w : World) :
    CallsIn F n Tryz.prog 108 #[x.val] w fun e w' => e = .returned (.func (.func 138) #[] #[.pointer (some ⟨w.heap.size, 0, none⟩)]) ∧ w' = w.alloc (.cells #[.int .i64 x.op, .int .i64 x.n, .string x.s, .slice x.a x.len x.cap] 50) := by
  dsimp only [Nd.val]
  refine callsIn_of_wp Tryz.func108 rfl h21 ?_ hro
  simp only [Tryz.ntmps108, List.size_toArray, List.length_cons, List.length_nil, Nat.reduceAdd, Nat.reduceSub, Array.replicate_succ, Array.replicate_zero, List.push_toArray, List.append_toArray, List.nil_append, List.cons_append]
  gi_wp2
  go_ret
  exact ⟨rfl, rfl⟩
def Box4 (W : World) (B : Nat) (x : Nd) : Prop := W.heap[B]? = some (.cells #[.int .i64 x.op, .int .i64 x.n, .string x.s, .slice x.a x.len x.cap] 50 (0, 0))
theorem Box4.lt {W : World} {B : Nat} {x : Nd} (h : Box4 W B x) : B < W.heap.size := (Array.getElem?_eq_some_iff.1 h).1
theorem Box4.new (W : World) (x : Nd) : Box4 (W.alloc (.cells #[.int .i64 x.op, .int .i64 x.n, .string x.s, .slice x.a x.len x.cap] 50)) W.heap.size x := World.alloc_heap_new W _
theorem Box4.cell {W : World} {B : Nat} {x : Nd} (h : Box4 W B x) : W.cell? ⟨B, 0, none⟩ = some (.int .i64 x.op) ∧ W.cell? ⟨B, 1, none⟩ = some (.int .i64 x.n) ∧ W.cell? ⟨B, 2, none⟩ = some (.string x.s) ∧ W.cell? ⟨B, 3, none⟩ = some (.slice x.a x.len x.cap) := by
  unfold Box4 at h
  refine ⟨?_, ?_, ?_, ?_⟩ <;> simp [World.cell?, h]
theorem Box4.below {n : Nat} {A B : World} {b : Nat} {x : Nd} (h : Box4 A b x) (hb : Below n A B) (hn : b < n) : Box4 B b x := (hb.block b hn).trans h
theorem Box4.kept {W W' : World} {row : Option Nat} {B : Nat} {x : Nd} (h : Box4 W B x) (hg : W.grownBy W' row) (hr : ∀ r, row = some r → ∃ o : Obj, W.heap[r]? = some o ∧ o.isCells = false) : Box4 W' B x := by
  refine (hg.block B h.lt (fun e => ?_)).trans h
  obtain ⟨o, ho, hc⟩ := hr B e.symm
  unfold Box4 at h
  rw [h] at ho
  cases ho
  cases hc
theorem Kp.put {S : Nat → Prop} {n₁ : Nat} {w : World} (hn : ∀ k, S k → k < w.heap.size) (W : World) (l : Nat) (o o' : Obj) (hl : w.heap.size ≤ l) (h : W.heap[l]? = some o) (hc : o.isCells = false) (hw : o.isWalk = false) : Kp S n₁ W (W.putObj l o') :=
  ⟨BelS.of (belowK_b (Nat.le_refl _) W l o o' hl h hc hw) hn, fun k u _ hk hu => by
    have hne : k ≠ l := by
      rintro rfl
      rw [h] at hk
      cases hk
      rw [hc] at hu
      cases hu
    exact (World.putObj_heap_other (fun e => hne e)).trans hk⟩
set_option maxRecDepth 100000 in
set_option maxHeartbeats 2000000 in
theorem nodes_stops (F : Fence) (hd : F.depth = none) (n : Nat) (h39 : F.fn 138) (h40 : F.fn 139) (hro : F.round = none) (Bt : Nat) (S : Nat → Prop) (n₁ : Nat) (e : E) (x : Nd) (w : World) (hBt : Box4 w Bt x) (hn₀ : ∀ k, S k → k < w.heap.size) (hn₁ : n₁ ≤ w.heap.size) (hE : IsE S w e x) (hN : (opsE e).length ≤ 1099511627776) :
    SeqStopsK F n Tryz.prog 138 #[.pointer (some ⟨Bt, 0, none⟩)] (fun x : Nd => #[x.val]) (Kp S n₁) (fun ys => ys.map Nd.op = opsE e) (fun pre => pre.map Nd.op <+: opsE e) (opsE e).length w := by
  intro l J Jx W hW hJ hJx hY h0
  have hdd : ∀ k : Nat, (F.depth.isSome = true → 1 ≤ k) := fun k h => by rw [hd] at h; cases h
  have hB := hBt.below hW hBt.lt
  obtain ⟨c0, c1, c2, c3⟩ := hB.cell
  have hv := visit_in F hd h40 hro l S n₁ (opsE e).length J Jx _ hJ hN (fun m pre x W hj hl => YieldAt.anyDepth hd m (hY pre x W hj hl)) e (n - 1) x [] W (fun k hk => Nat.lt_of_lt_of_le (hn₀ k hk) hW.size) (Nat.le_trans hn₁ hW.size) (hE.below (BelS.of hW hn₀)) h0 (by simp)
  refine callsIn_of_wp Tryz.func138 rfl h39 ?_ hro
  simp only [Tryz.ntmps138, List.size_toArray, List.length_cons, List.length_nil, Nat.reduceAdd, Nat.reduceSub, Array.replicate_succ, Array.replicate_zero, List.push_toArray, List.append_toArray, List.nil_append, List.cons_append]
  dsimp only [Nd.val] at hv
  gi_wp2_with ((try refine ⟨hdd _, ?_⟩); gi_at_call 139; refine hv.mono ?_; clear hv; rintro en W1 (⟨rfl, ⟨ys, hys, hJ1⟩, _⟩ | ⟨rfl, q, hq, hx⟩))
  · go_end0
    exact ⟨⟨_, rfl⟩, .inl ⟨ys, hys, by simpa using hJ1⟩⟩
  · go_end0
    exact ⟨⟨_, rfl⟩, .inr ⟨q, hq, by simpa using hx⟩⟩
end Go.Proofs.YtjmghomnbmbjnaaGreat
set_option linter.all false
namespace Go.Proofs.YtjmghomnbmbjnaaGreat
open Go.RowKit Go.Shelf
open Go.Abs (E RelD Dat Bytes)
attribute [local go_sem] Oper.semAt_some
def ndS (op : Int) : Bool := decide (op = 25) || decide (op = 26) || decide (op = 27)
def rdS (op : Int) : Bool := decide (op = 22) || decide (op = 23) || decide (op = 24)
set_option maxHeartbeats 1000000 in
theorem nd_in (F : Fence) (n : Nat) (h : F.fn 109) (hro : F.round = none) (op : Int) (w : World) :
    CallsIn F n Tryz.prog 109 #[.int .i64 op] w fun e w' => e = .returned (.bool (ndS op)) ∧ w' = w := by
  refine callsIn_of_wp Tryz.func109 rfl h ?_ hro
  simp only [Tryz.ntmps109, List.size_toArray, List.length_cons, List.length_nil, Nat.reduceAdd, Nat.reduceSub, Array.replicate_succ, Array.replicate_zero, List.push_toArray, List.append_toArray, List.nil_append, List.cons_append]
  by_cases h1 : op = 25
  · subst h1; gi_wp2; go_ret; exact ⟨rfl, rfl⟩
  by_cases h2 : op = 26
  · subst h2; gi_wp2; go_ret; exact ⟨rfl, rfl⟩
  by_cases h3 : op = 27
  · subst h3; gi_wp2; go_ret; exact ⟨rfl, rfl⟩
  gi_wp2
  go_ret
  exact ⟨by simp [ndS, h1, h2, h3], rfl⟩
end Go.Proofs.YtjmghomnbmbjnaaGreat
set_option linter.all false
namespace Go.Proofs.YtjmghomnbmbjnaaGreat
open Go.RowKit Go.Shelf
open Go.Abs (E RelD Dat Bytes)
attribute [local go_sem] Oper.semAt_some
end Go.Proofs.YtjmghomnbmbjnaaGreat
set_option linter.all false
namespace Go.Proofs.YtjmghomnbmbjnaaGreat
open Go.RowKit Go.Shelf
open Go.Abs (E RelD Dat Bytes)
attribute [local go_sem] Oper.semAt_some
end Go.Proofs.YtjmghomnbmbjnaaGreat
