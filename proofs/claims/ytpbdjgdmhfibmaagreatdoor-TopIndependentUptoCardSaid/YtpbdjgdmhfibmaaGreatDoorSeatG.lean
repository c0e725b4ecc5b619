/- What is known from outside: Pure, Reads, First. -/
import Derived.Tactics2
import Derived.Defers
import Derived.Recover
import Derived.Laws.Pointers
import Derived.Test.YtpbdjgdmhfibmaaGreatDoorSeatA
import Derived.Test.YtpbdjgdmhfibmaaGreatDoorSeatF
import Derived.Test.YtpbdjgdmhfibmaaGreatDoorGenD
import Derived.Test.YtpbdjgdmhfibmaaGreatDoorSeatD
import Derived.Test.YtpbdjgdmhfibmaaGreatDoorGenB
import Derived.Test.YtpbdjgdmhfibmaaGreatDoorSeatC
import Derived.Test.YtpbdjgdmhfibmaaGreatDoorGenC
set_option linter.all false
namespace Go.Proofs.YtpbdjgdmhfibmaaGreatDoor
open Go.Abs
set_option maxRecDepth 100000
def fewN (n : Nat) : Bool := decide (n ≤ 1099511627776)
def outFn (f : List AV → Option AV) : AFun := fun args A => match f (acleanVs A args).1 with
 | some x => some (x, (acleanVs A args).2)
 | none => none
def argP : List AV → Option Pr
 | [.agg [.d a, .d b, .d c]] => match rdPr [a, b, c] with
   | some p => if (okP p && (!decide (valS p = 0) || fewN (opsEs (exprsS p)).length)) = true then some p else none
   | none => none
 | _ => none
def fstP (p : Pr) : Int × Int × Bool := if valS p = 0 then fstS (opsEs (exprsS p)) 0 else (0, 0, false)
def fstF : List AV → Option AV := fun xs => (argP xs).map fun p => .tuple [.d (.int .i64 (fstP p).1), .d (.int .i64 (fstP p).2.1), .d (.bool (fstP p).2.2)]
theorem argP_inv {xs : List AV} {p : Pr} (h : argP xs = some p) : xs = [Pr.av p] ∧ p.Ok ∧ (valS p = 0 → (opsEs (exprsS p)).length ≤ 1099511627776) := by
 unfold argP at h
 split at h
 ·split at h
  ·rename_i a b c p' he
   split at h
   ·rename_i hl
    cases h
    have h2 := rdPr_inv he
    rw [Pr.row] at h2
    simp only [List.cons.injEq, and_true] at h2
    obtain ⟨rfl, rfl, rfl⟩ := h2
    rw [Bool.and_eq_true] at hl
    exact ⟨rfl, okP_iff.1 hl.1, fun h => by simpa [fewN, h] using hl.2⟩
   ·cases h
  ·cases h
 ·cases h
theorem argP_row {p : Pr} (hp : p.Ok) (h : valS p = 0 → (opsEs (exprsS p)).length ≤ 1099511627776) : argP [Pr.av p] = some p := by
 have := rdPr_row p
 rw [Pr.row] at this
 simp only [argP]
 rw [this]
 simp only
 rw [if_pos (by rw [Bool.and_eq_true]; exact ⟨okP_iff.2 hp, by by_cases hv : valS p = 0; (· simpa [fewN, hv] using h hv); (· simp [hv])⟩)]
theorem out_okI {I : World → Gh → Prop} (hI : EvClosed I) {P : Program} {f : FuncId} {k : List AV → Option AV} (hf : ∃ fn, P.funcs[f]? = some fn ∧ (fn.name == "runtime.NumGoroutine") = false ∧ fn.body.isNone = false)
  (h : ∀ xs x, k xs = some x → ∀ (W : World) (g : Gh) (A : AHeap) (vs : List Value), I W g → WRel W g A → RelL W g A xs vs → Calls P f vs.toArray W (CallPost W g A x A)) : CallOk1I P I f (outFn k) := by
 intro xs A x A' hx
 unfold outFn at hx
 split at hx
 ·rename_i y hy
  cases hx
  refine ⟨hf, fun W g vs hi hw hr => ?_⟩
  obtain ⟨g1, r1, w1, e1⟩ := acleanVs_rel hw hr
  refine (h _ _ hy W g1 _ vs (hI _ _ _ _ _ _ hi e1) w1 r1).mono fun e W' hp => ?_
  obtain ⟨v, g', rfl, p1, p2, p3⟩ := hp
  exact ⟨v, g', rfl, p1, p2, e1.trans p3⟩
 ·cases hx
theorem relL_one1 {W : World} {g : Gh} {A : AHeap} {x : AV} {vs : List Value} (h : RelL W g A [x] vs) : ∃ v, vs = [v] ∧ RelV W g A x v := by
 obtain ⟨h1, h2⟩ := h
 match vs, h1 with
 | [v], _ => exact ⟨v, rfl, h2 0 x v rfl rfl⟩
 | [], h => simp at h
 | _ :: _ :: _, h => simp at h
set_option maxRecDepth 100000 in
theorem fst_okI : CallOk1I Tryz.prog IT 117 (outFn fstF) := by
 refine out_okI IT_closed ⟨_, Tryz.func117, by kernel_rfl, rfl⟩ fun xs x hx W g A vs hi hw hr => ?_
 unfold fstF at hx
 rw [Option.map_eq_some_iff] at hx
 obtain ⟨p, he, rfl⟩ := hx
 obtain ⟨rfl, hp, hl⟩ := argP_inv he
 obtain ⟨v, rfl, hv⟩ := relL_one1 hr
 obtain ⟨c0, c1, c2, rfl⟩ : ∃ c0 c1 c2, v = .agg #[c0, c1, c2] := by
  cases hv with
  | agg cs us hl hr =>
    match us, hl with
    | [a, b, c], _ => exact ⟨a, b, c, rfl⟩
 refine callsIn_wide.1 (first_in 8 (Nat.le_refl _) g A W hw (Pr.av p) c0 c1 c2 hv (valS p) (exprsS p) hl ?_ ?_ (fstP p) rfl)
 ·intro W g he hw hv
  exact (acl_okI (c := C) IT_closed mixed extOkI _ _ _ _ _ (validate p hp A)).2 W g [.agg #[c0, c1, c2]] (IT_closed _ _ _ _ _ _ hi he) hw ⟨rfl, fun i x v h1 h2 => by
   match i with
   | 0 => simp at h1 h2; subst h1; subst h2; exact hv
   | i + 1 => simp at h1⟩
 ·intro _ W g he hw hv
  exact (acl_okI (c := C) IT_closed mixed extOkI _ _ _ _ _ (exprs p hp A)).2 W g [.agg #[c0, c1, c2]] (IT_closed _ _ _ _ _ _ hi he) hw ⟨rfl, fun i x v h1 h2 => by
   match i with
   | 0 => simp at h1 h2; subst h1; subst h2; exact hv
   | i + 1 => simp at h1⟩
end Go.Proofs.YtpbdjgdmhfibmaaGreatDoor
namespace Go.Proofs.YtpbdjgdmhfibmaaGreatDoor
open Go.Abs Go.RowKit Go.Shelf
set_option maxRecDepth 100000
theorem pxOk : PxOk Tryz.prog 106 IT px := by
 intro f xs A x A' h
 cases h with
 | abort code =>
   refine ⟨⟨_, Tryz.func122, by kernel_rfl, by kernel_rfl⟩, fun W g vs _ hw hr => ?_⟩
   obtain ⟨h1, h2⟩ := hr
   match vs, h1 with
   | [v], _ =>
     have hv := h2 0 _ v rfl rfl
     cases hv with
     | d _ _ hd =>
     cases hd
     refine (abort_walk code W).mono ?_
     rintro e W' ⟨rfl, rfl⟩
     refine ⟨_, g, rfl, .agg _ [.int .i64 2, .int .i64 code, .slice none 0 0, .string ⟨#[]⟩] rfl fun i x v k1 k2 => ?_, hw, .refl _ _ _⟩
     match i with
     | 0 => simp at k1 k2; subst k1; subst k2; exact .d _ _ (.int _ _)
     | 1 => simp at k1 k2; subst k1; subst k2; exact .d _ _ (.int _ _)
     | 2 => simp at k1 k2; subst k1; subst k2; exact .d _ _ (.empty _ _)
     | 3 => simp at k1 k2; subst k1; subst k2; exact .d _ _ (.str ⟨#[]⟩)
     | i + 4 => simp at k2
   | [], h => simp at h
   | _ :: _ :: _, h => simp at h
 | restart key =>
   refine ⟨⟨_, Tryz.func169, by kernel_rfl, by kernel_rfl⟩, fun W g vs _ hw hr => ?_⟩
   obtain ⟨h1, h2⟩ := hr
   match vs, h1 with
   | [v], _ =>
     have hv := h2 0 _ v rfl rfl
     cases hv with
     | d _ _ hd =>
     cases hd with
     | str kb =>
     refine (restart_walk kb W).mono ?_
     rintro e W' ⟨rfl, rfl⟩
     refine ⟨_, g, rfl, .agg _ [.int .i64 3, .int .i64 0, .slice none 0 0, .string kb] rfl fun i x v k1 k2 => ?_, hw, .refl _ _ _⟩
     match i with
     | 0 => simp at k1 k2; subst k1; subst k2; exact .d _ _ (.int _ _)
     | 1 => simp at k1 k2; subst k1; subst k2; exact .d _ _ (.int _ _)
     | 2 => simp at k1 k2; subst k1; subst k2; exact .d _ _ (.empty _ _)
     | 3 => simp at k1 k2; subst k1; subst k2; exact .d _ _ (.str kb)
     | i + 4 => simp at k2
   | [], h => simp at h
   | _ :: _ :: _, h => simp at h
theorem catch_idle (p q : Addr) (w : World) :
  CallsD Tryz.prog 87 #[.pointer (some p), .pointer (some q)] .returning w fun e u' w' => e = .returned (.tuple #[]) ∧ u' = .returning ∧ w' = w := by
 refine callsD_of_wpS Tryz.func87 rfl fun c₀ cs hu => ?_
 apply wpS_seq
 apply wpS_region
 simp [wpOpsS, go_sem, recoverD, hu, Tryz.ntmps87, Exit.thenS]
 refine wpS_of_wp ?_
 go_wp2
 cases c₀
 simp_all [bodyPostS, results, Tryz.results87]
@[go_sem] theorem assert_stop (v : Value) (w : World) : (Instr.typeAssert (.iface 106 v) 20 106 true).run Tryz.prog w = .ok (.tuple #[v, .bool true]) w := by kernel_rfl
structure Kept (w : World) (b q : Nat) (o1 o2 o3 o4 x : Value) : Prop where
 hp : w.heap[b]? = some (.cells #[o1, o2, o3, o4] 106 (0, 0))
 hq : w.heap[q]? = some (.cells #[x] 4 (0, 0))
 ne : b ≠ q
def put5 (w : World) (b q : Nat) (v1 v2 v3 v4 y : Value) : World := ((((w.setCell ⟨b, 0, none⟩ v1).setCell ⟨b, 1, none⟩ v2).setCell ⟨b, 2, none⟩ v3).setCell ⟨b, 3, none⟩ v4).setCell ⟨q, 0, none⟩ y
theorem set_same' {w : World} {b i : Nat} {v : Value} {cs : Array Value} {T : TypeId} {fz : Nat × Nat} (h : w.heap[b]? = some (.cells cs T fz)) : (w.setCell ⟨b, i, none⟩ v).heap[b]? = some (.cells (cs.setIfInBounds i v) T fz) := by
 unfold World.setCell
 simp only [Array.getElem?_modify, if_true, h]
 rfl
theorem set_other {w : World} {b i k : Nat} {v : Value} (h : k ≠ b) : (w.setCell ⟨b, i, none⟩ v).heap[k]? = w.heap[k]? := by
 unfold World.setCell
 simp only [Array.getElem?_modify]
 rw [if_neg (fun e => h e.symm)]
theorem set_size {w : World} {a : Addr} {v : Value} : (w.setCell a v).heap.size = w.heap.size := by simp [World.setCell]
theorem alloc_lt {w : World} {b : Nat} {o : Obj} {X : Obj} (h : w.heap[b]? = some o) : (w.alloc X).heap[b]? = some o := by rw [heap_alloc_get (Array.getElem?_eq_some_iff.1 h).1]; exact h
set_option maxHeartbeats 4000000 in
theorem catch_stop (b q : Nat) (a1 a2 : Int) (a3 : Option Addr) (c3 : Nat) (a4 : ByteArray) (o1 o2 o3 o4 x : Value) (w : World) (K : Kept w b q o1 o2 o3 o4 x) :
  CallsD Tryz.prog 87 #[.pointer (some ⟨b, 0, none⟩), .pointer (some ⟨q, 0, none⟩)] (.panicking [{ v := .iface 106 (.agg #[.int .i64 a1, .int .i64 a2, .slice a3 0 c3, .string a4]), recovered := false }]) w fun e u' w' =>
   e = .returned (.tuple #[]) ∧ u' = .panicking [{ v := .iface 106 (.agg #[.int .i64 a1, .int .i64 a2, .slice a3 0 c3, .string a4]), recovered := true }] ∧
   w' = put5 (w.alloc (.cells #[.int .i64 a1, .int .i64 a2, .slice a3 0 c3, .string a4] 106)) b q (.int .i64 a1) (.int .i64 a2) (.slice a3 0 c3) (.string a4) (.bool true) := by
 obtain ⟨hp, hq, hbq⟩ := K
 have hqb : q ≠ b := fun e => hbq e.symm
 have A0 : ∀ X, (w.alloc X).heap[b]? = some (.cells #[o1, o2, o3, o4] 106 (0, 0)) := fun X => alloc_lt hp
 have c0 : ∀ X, (w.alloc X).cell? ⟨b, 0, none⟩ = some o1 := fun X => cell_of_row _ b 0 _ _ _ (A0 X)
 have f0 : ∀ X, (w.alloc X).frozen? ⟨b, 0, none⟩ = false := fun X => frozen_of_row _ b 0 _ _ (A0 X)
 have A1 : ∀ X v1, ((w.alloc X).setCell ⟨b, 0, none⟩ v1).heap[b]? = some (.cells #[v1, o2, o3, o4] 106 (0, 0)) := fun X v1 => set_same' (alloc_lt hp)
 have c1 : ∀ X v1, ((w.alloc X).setCell ⟨b, 0, none⟩ v1).cell? ⟨b, 1, none⟩ = some o2 := fun X v1 => cell_of_row _ b 1 _ _ _ (A1 X v1)
 have f1 : ∀ X v1, ((w.alloc X).setCell ⟨b, 0, none⟩ v1).frozen? ⟨b, 1, none⟩ = false := fun X v1 => frozen_of_row _ b 1 _ _ (A1 X v1)
 have A2 : ∀ X v1 v2, (((w.alloc X).setCell ⟨b, 0, none⟩ v1).setCell ⟨b, 1, none⟩ v2).heap[b]? = some (.cells #[v1, v2, o3, o4] 106 (0, 0)) := fun X v1 v2 => set_same' (set_same' (alloc_lt hp))
 have c2 : ∀ X v1 v2, (((w.alloc X).setCell ⟨b, 0, none⟩ v1).setCell ⟨b, 1, none⟩ v2).cell? ⟨b, 2, none⟩ = some o3 := fun X v1 v2 => cell_of_row _ b 2 _ _ _ (A2 X v1 v2)
 have f2 : ∀ X v1 v2, (((w.alloc X).setCell ⟨b, 0, none⟩ v1).setCell ⟨b, 1, none⟩ v2).frozen? ⟨b, 2, none⟩ = false := fun X v1 v2 => frozen_of_row _ b 2 _ _ (A2 X v1 v2)
 have A3 : ∀ X v1 v2 v3, ((((w.alloc X).setCell ⟨b, 0, none⟩ v1).setCell ⟨b, 1, none⟩ v2).setCell ⟨b, 2, none⟩ v3).heap[b]? = some (.cells #[v1, v2, v3, o4] 106 (0, 0)) := fun X v1 v2 v3 => set_same' (set_same' (set_same' (alloc_lt hp)))
 have cc3 : ∀ X v1 v2 v3, ((((w.alloc X).setCell ⟨b, 0, none⟩ v1).setCell ⟨b, 1, none⟩ v2).setCell ⟨b, 2, none⟩ v3).cell? ⟨b, 3, none⟩ = some o4 := fun X v1 v2 v3 => cell_of_row _ b 3 _ _ _ (A3 X v1 v2 v3)
 have f3 : ∀ X v1 v2 v3, ((((w.alloc X).setCell ⟨b, 0, none⟩ v1).setCell ⟨b, 1, none⟩ v2).setCell ⟨b, 2, none⟩ v3).frozen? ⟨b, 3, none⟩ = false := fun X v1 v2 v3 => frozen_of_row _ b 3 _ _ (A3 X v1 v2 v3)
 have A4 : ∀ X v1 v2 v3 v4, (((((w.alloc X).setCell ⟨b, 0, none⟩ v1).setCell ⟨b, 1, none⟩ v2).setCell ⟨b, 2, none⟩ v3).setCell ⟨b, 3, none⟩ v4).heap[q]? = some (.cells #[x] 4 (0, 0)) := fun X v1 v2 v3 v4 => by rw [set_other hqb, set_other hqb, set_other hqb, set_other hqb]; exact alloc_lt hq
 have cq : ∀ X v1 v2 v3 v4, (((((w.alloc X).setCell ⟨b, 0, none⟩ v1).setCell ⟨b, 1, none⟩ v2).setCell ⟨b, 2, none⟩ v3).setCell ⟨b, 3, none⟩ v4).cell? ⟨q, 0, none⟩ = some x := fun X v1 v2 v3 v4 => cell_of_row _ q 0 _ _ _ (A4 X v1 v2 v3 v4)
 have fq : ∀ X v1 v2 v3 v4, (((((w.alloc X).setCell ⟨b, 0, none⟩ v1).setCell ⟨b, 1, none⟩ v2).setCell ⟨b, 2, none⟩ v3).setCell ⟨b, 3, none⟩ v4).frozen? ⟨q, 0, none⟩ = false := fun X v1 v2 v3 v4 => frozen_of_row _ q 0 _ _ (A4 X v1 v2 v3 v4)
 clear hp hq A0 A1 A2 A3 A4
 refine callsD_of_wpS Tryz.func87 rfl fun c₀ cs hu => ?_
 apply wpS_seq
 apply wpS_region
 simp [wpOpsS, go_sem, recoverD, hu, Tryz.ntmps87, Exit.thenS]
 refine wpS_of_wp ?_
 go_wp2
 refine ⟨rfl, _, rfl, .tuple #[], ?_, rfl, rfl, rfl⟩
 simp [results, Tryz.results87]
def two (W : World) : World := (W.alloc (.cells #[.int .i64 0, .int .i64 0, .slice none 0 0, .string ⟨#[]⟩] 106)).alloc (.cells #[.bool false] 4)
theorem Kept.alloc {w : World} {b q : Nat} {o1 o2 o3 o4 x : Value} (K : Kept w b q o1 o2 o3 o4 x) (X : Obj) : Kept (w.alloc X) b q o1 o2 o3 o4 x := ⟨alloc_lt K.hp, alloc_lt K.hq, K.ne⟩
theorem set4_other {w : World} {b q : Nat} (h : q ≠ b) (v1 v2 v3 v4 : Value) : ((((w.setCell ⟨b, 0, none⟩ v1).setCell ⟨b, 1, none⟩ v2).setCell ⟨b, 2, none⟩ v3).setCell ⟨b, 3, none⟩ v4).heap[q]? = w.heap[q]? := by
 rw [set_other h, set_other h, set_other h, set_other h]
theorem Kept.put {w : World} {b q : Nat} {o1 o2 o3 o4 x : Value} (K : Kept w b q o1 o2 o3 o4 x) (v1 v2 v3 v4 y : Value) : Kept (put5 w b q v1 v2 v3 v4 y) b q v1 v2 v3 v4 y := by
 have hqb : q ≠ b := fun e => K.ne e.symm
 refine ⟨?_, ?_, K.ne⟩
 ·unfold put5
  rw [set_other K.ne]
  exact set_same' (set_same' (set_same' (set_same' K.hp)))
 ·unfold put5
  have h := K.hq
  rw [← set4_other hqb v1 v2 v3 v4] at h
  exact set_same' h
set_option maxHeartbeats 4000000 in
theorem run_answer {W : World} {b q : Nat} {v1 v2 v3 v4 y : Value} (K : Kept W b q v1 v2 v3 v4 y) (n1 n2 n3 n4 n5 n6 n7 n8 : Value) : (results Tryz.f49 #[n1, n2, n3, n4, .pointer (some ⟨b, 0, none⟩), .pointer (some ⟨q, 0, none⟩), n5, n6, n7, n8]).run Tryz.prog W = .ok (.tuple #[.agg #[v1, v2, v3, v4], y]) W := by
 have c0 : W.cell? ⟨b, 0, none⟩ = some v1 := cell_of_row _ b 0 _ _ _ K.hp
 have c1 : W.cell? ⟨b, 1, none⟩ = some v2 := cell_of_row _ b 1 _ _ _ K.hp
 have c2 : W.cell? ⟨b, 2, none⟩ = some v3 := cell_of_row _ b 2 _ _ _ K.hp
 have c3 : W.cell? ⟨b, 3, none⟩ = some v4 := cell_of_row _ b 3 _ _ _ K.hp
 have c4 : W.cell? ⟨q, 0, none⟩ = some y := cell_of_row _ q 0 _ _ _ K.hq
 simp [results, Tryz.results49, go_sem, c0, c1, c2, c3, c4]
set_option maxHeartbeats 4000000 in
theorem run_stops (m : Value) (us : Array Value) (W : World) (a1 a2 : Int) (P : Option Addr → Nat → ByteArray → World → Prop)
  (hB : Calls Tryz.prog 50 us (two W) fun e W1 => ∃ a3 c3 a4, e = .panicked [{ v := .iface 106 (.agg #[.int .i64 a1, .int .i64 a2, .slice a3 0 c3, .string a4]), recovered := false }] ∧ P a3 c3 a4 W1)
  (hK : ∀ a3 c3 a4 W1, P a3 c3 a4 W1 → Kept W1 W.heap.size (W.heap.size + 1) (.int .i64 0) (.int .i64 0) (.slice none 0 0) (.string ⟨#[]⟩) (.bool false)) :
  Calls Tryz.prog 49 #[m, .func (.func 50) #[] us] W fun e W' => ∃ a3 c3 a4 W1, e = .returned (.tuple #[.agg #[.int .i64 a1, .int .i64 a2, .slice a3 0 c3, .string a4], .bool true]) ∧ P a3 c3 a4 W1 ∧
   W' = put5 (W1.alloc (.cells #[.int .i64 a1, .int .i64 a2, .slice a3 0 c3, .string a4] 106)) W.heap.size (W.heap.size + 1) (.int .i64 a1) (.int .i64 a2) (.slice a3 0 c3) (.string a4) (.bool true) := by
 have hmf : ∀ (fn : Fn) (first cap : Array Value) (w : World), (Instr.makeFunc fn first cap).run Tryz.prog w = .ok (.func fn first cap) w := fun _ _ _ _ => rfl
 unfold two at hB
 go_enter_defers Tryz.func49, Tryz.ntmps49
 go_wp2_with (go_at_call 50; refine hB.mono ?_; rintro e W1 ⟨a3, c3, a4, rfl, hp⟩)
 have K := hK a3 c3 a4 W1 hp
 refine leaves_cons (f := 87) (args := #[.pointer (some ⟨W.heap.size, 0, none⟩), .pointer (some ⟨W.heap.size + 1, 0, none⟩)]) (by simp) (by simp [go_sem]) ?_
 refine (catch_stop _ _ a1 a2 a3 c3 a4 _ _ _ _ _ W1 K).mono ?_
 rintro e u' w'' ⟨rfl, rfl, rfl⟩
 exact ⟨_, run_answer ((K.alloc _).put _ _ _ _ _) _ _ _ _ _ _ _ _, a3, c3, a4, W1, rfl, hp, rfl⟩
theorem storeKept {W : World} {b q : Nat} {o1 o2 o3 o4 x : Value} (K : Kept W b q o1 o2 o3 o4 x) : (W.cell? ⟨b, 0, none⟩ = some o1) ∧ (W.frozen? ⟨b, 0, none⟩ = false) ∧ (∀ v1 : Value, (W.setCell ⟨b, 0, none⟩ v1).cell? ⟨b, 1, none⟩ = some o2) ∧ (∀ v1 : Value, (W.setCell ⟨b, 0, none⟩ v1).frozen? ⟨b, 1, none⟩ = false) ∧ (∀ v1 v2 : Value, ((W.setCell ⟨b, 0, none⟩ v1).setCell ⟨b, 1, none⟩ v2).cell? ⟨b, 2, none⟩ = some o3) ∧ (∀ v1 v2 : Value, ((W.setCell ⟨b, 0, none⟩ v1).setCell ⟨b, 1, none⟩ v2).frozen? ⟨b, 2, none⟩ = false) ∧ (∀ v1 v2 v3 : Value, (((W.setCell ⟨b, 0, none⟩ v1).setCell ⟨b, 1, none⟩ v2).setCell ⟨b, 2, none⟩ v3).cell? ⟨b, 3, none⟩ = some o4) ∧ (∀ v1 v2 v3 : Value, (((W.setCell ⟨b, 0, none⟩ v1).setCell ⟨b, 1, none⟩ v2).setCell ⟨b, 2, none⟩ v3).frozen? ⟨b, 3, none⟩ = false) ∧ (∀ v1 v2 v3 v4 : Value, ((((W.setCell ⟨b, 0, none⟩ v1).setCell ⟨b, 1, none⟩ v2).setCell ⟨b, 2, none⟩ v3).setCell ⟨b, 3, none⟩ v4).cell? ⟨q, 0, none⟩ = some x) ∧ (∀ v1 v2 v3 v4 : Value, ((((W.setCell ⟨b, 0, none⟩ v1).setCell ⟨b, 1, none⟩ v2).setCell ⟨b, 2, none⟩ v3).setCell ⟨b, 3, none⟩ v4).frozen? ⟨q, 0, none⟩ = false) := by
 have hqb : q ≠ b := fun e => K.ne e.symm
 exact ⟨cell_of_row _ b 0 _ _ _ (K.hp), frozen_of_row _ b 0 _ _ (K.hp), fun v1 => cell_of_row _ b 1 _ _ _ (set_same' (K.hp)), fun v1 => frozen_of_row _ b 1 _ _ (set_same' (K.hp)), fun v1 v2 => cell_of_row _ b 2 _ _ _ (set_same' (set_same' (K.hp))), fun v1 v2 => frozen_of_row _ b 2 _ _ (set_same' (set_same' (K.hp))), fun v1 v2 v3 => cell_of_row _ b 3 _ _ _ (set_same' (set_same' (set_same' (K.hp)))), fun v1 v2 v3 => frozen_of_row _ b 3 _ _ (set_same' (set_same' (set_same' (K.hp)))), fun v1 v2 v3 v4 => cell_of_row _ q 0 _ _ _ ((set4_other hqb v1 v2 v3 v4).trans K.hq), fun v1 v2 v3 v4 => frozen_of_row _ q 0 _ _ ((set4_other hqb v1 v2 v3 v4).trans K.hq)⟩
set_option maxHeartbeats 4000000 in
theorem run_ends (m : Value) (us : Array Value) (W : World) (P : World → Prop)
  (hB : Calls Tryz.prog 50 us (two W) fun e W1 => e = .returned (.tuple #[]) ∧ P W1)
  (hK : ∀ W1, P W1 → Kept W1 W.heap.size (W.heap.size + 1) (.int .i64 0) (.int .i64 0) (.slice none 0 0) (.string ⟨#[]⟩) (.bool false)) :
  Calls Tryz.prog 49 #[m, .func (.func 50) #[] us] W fun e W' => e = .returned (.tuple #[.agg #[.int .i64 0, .int .i64 0, .slice none 0 0, .string ⟨#[]⟩], .bool false]) ∧ ∃ W1, P W1 ∧
   W' = put5 W1 W.heap.size (W.heap.size + 1) (.int .i64 0) (.int .i64 0) (.slice none 0 0) (.string ⟨#[]⟩) (.bool false) := by
 have hmf : ∀ (fn : Fn) (first cap : Array Value) (w : World), (Instr.makeFunc fn first cap).run Tryz.prog w = .ok (.func fn first cap) w := fun _ _ _ _ => rfl
 unfold two at hB
 go_enter_defers Tryz.func49, Tryz.ntmps49
 go_wp2_with (go_at_call 50; refine hB.mono ?_; rintro e W1 ⟨rfl, hp⟩; have K := hK W1 hp; have hw := storeKept K)
 refine leaves_cons (f := 87) (args := #[.pointer (some ⟨W.heap.size, 0, none⟩), .pointer (some ⟨W.heap.size + 1, 0, none⟩)]) (by simp) (by simp [go_sem]) ?_
 refine (catch_idle _ _ _).mono ?_
 rintro e u' w'' ⟨rfl, rfl, rfl⟩
 exact ⟨_, run_answer (K.put _ _ _ _ _) _ _ _ _ _ _ _ _, rfl, W1, hp, rfl⟩
end Go.Proofs.YtpbdjgdmhfibmaaGreatDoor
namespace Go.Proofs.YtpbdjgdmhfibmaaGreatDoor
open Go.Abs
attribute [local congr] ite_congr
set_option maxRecDepth 100000
theorem run1P {A : AHeap} {x : Ids} {S : Nat} {m : Mc} (hSb : S ≤ 33554432) (l : List Stm) (hlen : l.length ≤ 4194303) (hok : ∀ s ∈ l, s.Ok) (hw : slW S l) (hS : HS A x m) (hx : XI S m 0) (hst : m.steps ≤ 16384) {a b : Nat} {c0 c1 : AV} (ha : A.objs[a]? = some (.cells [.ptr x.m 0])) (hb : A.objs[b]? = some (.cells [c0, c1, .d (.slice (l.map Stm.row))])) :
  Does 50 [.ptr a 0, .ptr b 0] A x (exL l m).rs := by
 have hd := blockAll x hSb l hlen hok hw hS hx hst
 cases hr : exL l m with
 | ok mF =>
   rw [hr] at hd
   obtain ⟨D, e1, e2, e3⟩ := hd
   obtain ⟨k1, k2⟩ := keep_fin (f := 50) (v := .tuple []) nice_t hS e2 e3
   refine ⟨_, ?_, k1, k2⟩
   have e := fun B => finR (f := 50) (A := A) (B := B) nice_t
   rw [kC Tryz.func50 rfl Tryz.ntmps50 Tryz.results50]
   simp only [go_sem, acondK_bool, ha, hb, e1, e]
 | stop z mF =>
   rw [hr] at hd
   obtain ⟨D, e2, e3, e1⟩ := hd
   obtain ⟨k1, k2⟩ := keep_fin (f := 50) (v := z.av) (nice_s _) hS e2 e3
   refine ⟨_, k1, k2, fun R hR => ?_⟩
   have no := pcl_no pxNo (e1 (fun _ _ => True) trivial)
   refine pC Tryz.func50 rfl Tryz.ntmps50 Tryz.results50 ?_
   simp only [go_sem, acondK_bool, ha, hb, no]
   exact e1 _ ((post_fin (nice_s _)).2 hR)
theorem prow_inj : ∀ {a b : List Kv}, a.map Kv.row = b.map Kv.row → a = b
 | [], [], _ => rfl
 | [], _ :: _, h => by simp at h
 | _ :: _, [], h => by simp at h
 | ⟨k, ⟨x, n, s⟩⟩ :: a, ⟨k', ⟨x', n', s'⟩⟩ :: b, h => by
   simp only [List.map_cons, List.cons.injEq, Kv.row, Dat.str.injEq, Dat.int.injEq, true_and, and_true] at h
   obtain ⟨⟨rfl, rfl, rfl, rfl⟩, h2⟩ := h
   rw [prow_inj h2]
theorem vrow_inj : ∀ {a b : List Vl}, a.map Vl.row = b.map Vl.row → a = b
 | [], [], _ => rfl
 | [], _ :: _, h => by simp at h
 | _ :: _, [], h => by simp at h
 | ⟨x, n, s⟩ :: a, ⟨x', n', s'⟩ :: b, h => by
   simp only [List.map_cons, List.cons.injEq, Vl.row, Dat.str.injEq, Dat.int.injEq, true_and, and_true] at h
   obtain ⟨⟨rfl, rfl, rfl⟩, h2⟩ := h
   rw [vrow_inj h2]
theorem srow_inj : ∀ {a b : List Bytes}, srow a = srow b → a = b
 | [], [], _ => rfl
 | [], _ :: _, h => by simp [srow] at h
 | _ :: _, [], h => by simp [srow] at h
 | s :: a, s' :: b, h => by
   simp only [srow, List.map_cons, List.cons.injEq, Dat.str.injEq, and_true] at h
   obtain ⟨rfl, h2⟩ := h
   rw [srow_inj h2]
theorem mapE_inj : ∀ {a b : List (Bytes × Vl)}, mapE a = mapE b → a = b
 | [], [], _ => rfl
 | [], _ :: _, h => by simp [mapE] at h
 | _ :: _, [], h => by simp [mapE] at h
 | ⟨k, ⟨x, n, s⟩⟩ :: a, ⟨k', ⟨x', n', s'⟩⟩ :: b, h => by
   simp only [mapE, List.map_cons, List.cons.injEq, Prod.mk.injEq, Vl.av, Dat.str.injEq, AV.agg.injEq, AV.d.injEq, Dat.int.injEq, true_and, and_true] at h
   obtain ⟨⟨rfl, rfl, rfl, rfl⟩, h2⟩ := h
   rw [mapE_inj h2]
theorem stm_inj {a b : List Stm} (h : a.map Stm.row = b.map Stm.row) : a = b := by
 have := rdSRows_rows a
 rw [h, rdSRows_rows b] at this
 exact (Option.some.inj this).symm
theorem ownS_inj {bs : List ABuf} {v : AV} {e sz : Nat} {r r' : List (List Dat)} (h : ownS bs v e sz r) (h' : ownS bs v e sz r') : r = r' := by
 rcases h with ⟨rfl, rfl⟩ | ⟨t, rfl, hb⟩
 ·rcases h' with ⟨_, rfl⟩ | ⟨t', h1, _⟩
  ·rfl
  ·cases h1
 ·rcases h' with ⟨h1, _⟩ | ⟨t', h1, hb'⟩
  ·cases h1
  ·obtain ⟨rfl, _⟩ : t = t' ∧ True := by simp only [AV.own.injEq] at h1; exact ⟨h1.1, trivial⟩
   rw [hb] at hb'
   cases hb'
   rfl
theorem HS.inj {A : AHeap} {x x' : Ids} {m m' : Mc} (h : HS A x m) (h' : HS A x' m') (hm : x.m = x'.m) : x = x' ∧ m = m' := by
 obtain ⟨ov, rv, wv, h⟩ := h
 obtain ⟨ov', rv', wv', h'⟩ := h'
 have hc := h.cell
 rw [hm, h'.cell] at hc
 simp only [Option.some.injEq, AObj.cells.injEq, mcell, List.cons.injEq, AV.d.injEq, Dat.slice.injEq, Dat.bool.injEq, AV.mapr.injEq, Dat.int.injEq, true_and, and_true] at hc
 obtain ⟨s1, s2, s3, s4, s5, s6, s7, s8, s9, s10⟩ := hc
 obtain ⟨xm, xv, xo⟩ := x
 obtain ⟨xm', xv', xo'⟩ := x'
 simp only at hm s5 s6
 subst hm s5 s6 s7 s8 s9
 refine ⟨rfl, ?_⟩
 have v1 := h.vars
 rw [h'.vars] at v1
 have v2 := h.own
 rw [h'.own] at v2
 simp only [Option.some.injEq, AObj.map.injEq] at v1 v2
 have o1 := vrow_inj (ownS_inj h.out h'.out)
 have o2 := srow_inj (ownS_inj h.rd h'.rd)
 have o3 := srow_inj (ownS_inj h.wr h'.wr)
 obtain ⟨q1, q2, q3, q4, q5, q6, q7, q8, q9, q10⟩ := m
 obtain ⟨p1, p2, p3, p4, p5, p6, p7, p8, p9, p10⟩ := m'
 simp only at s1 s2 s3 s4 s10 v1 v2 o1 o2 o3
 rw [prow_inj s1, s2, srow_inj s3, srow_inj s4, mapE_inj v1, mapE_inj v2, o1, o2, o3, s10]
end Go.Proofs.YtpbdjgdmhfibmaaGreatDoor
namespace Go.Proofs.YtpbdjgdmhfibmaaGreatDoor
open Go.Abs Go.RowKit Go.Shelf
set_option maxRecDepth 100000
def noS : Stp := ⟨0, 0, []⟩
structure RunPre (A : AHeap) (i a b : Nat) (x : Ids) (m : Mc) (l : List Stm) (S : Nat) : Prop where
 xm : x.m = i
 hs : HS A x m
 pa : A.objs[a]? = some (.cells [.ptr i 0])
 pb : ∃ c0 c1, A.objs[b]? = some (.cells [c0, c1, .d (.slice (l.map Stm.row))])
 Sb : S ≤ 33554432
 len : l.length ≤ 4194303
 ok : ∀ s ∈ l, s.Ok
 w : slW S l
 xi : XI S m 0
 st : m.steps ≤ 16384
def RunPost (A : AHeap) (a b : Nat) (x : Ids) (r : AV × AHeap) : Rx → Prop
 | .ok m' => r.1 = .tuple [noS.av, .d (.bool false)] ∧ acl C 50 [.ptr a 0, .ptr b 0] A = some (.tuple [], r.2) ∧ HS r.2 x m' ∧ Keep A r.2 x
 | .stop z m' => r.1 = .tuple [z.av, .d (.bool true)] ∧ pcl C px 50 [.ptr a 0, .ptr b 0] A (fun y B => y = z.av ∧ B = r.2) ∧ HS r.2 x m' ∧ Keep A r.2 x
def RunGood (A : AHeap) (i a b : Nat) (r : AV × AHeap) : Prop := ∃ x m l S, RunPre A i a b x m l S ∧ RunPost A a b x r (exL l m)
noncomputable def runF (A : AHeap) (i a b : Nat) : Option (AV × AHeap) := open Classical in if h : ∃ r, RunGood A i a b r then some (Classical.choose h) else none
noncomputable def runFn : AFun := fun args A => match args with
 | [.ptr i 0, .func (.func f) [] [.ptr a 0, .ptr b 0]] => if f = 50 then runF A i a b else none
 | _ => none
theorem run_post {A : AHeap} {i a b : Nat} {x : Ids} {m : Mc} {l : List Stm} {S : Nat} (h : RunPre A i a b x m l S) : ∃ r, runFn [.ptr i 0, .func (.func 50) [] [.ptr a 0, .ptr b 0]] A = some r ∧ RunPost A a b x r (exL l m) := by
 have hex : ∃ r, RunGood A i a b r := by
  obtain ⟨c0, c1, pb⟩ := h.pb
  have pa := h.pa
  rw [← h.xm] at pa
  have hd := run1P h.Sb l h.len h.ok h.w h.hs h.xi h.st pa pb
  cases hr : exL l m with
  | ok mF =>
    rw [hr] at hd
    obtain ⟨D, e1, e2, e3⟩ := hd
    exact ⟨(_, D), x, m, l, S, h, by rw [hr]; exact ⟨rfl, e1, e2, e3⟩⟩
  | stop z mF =>
    rw [hr] at hd
    obtain ⟨D, e2, e3, e1⟩ := hd
    exact ⟨(_, D), x, m, l, S, h, by rw [hr]; exact ⟨rfl, e1 _ ⟨rfl, rfl⟩, e2, e3⟩⟩
 have hsp := Classical.choose_spec hex
 refine ⟨Classical.choose hex, ?_, ?_⟩
 ·show (if 50 = 50 then runF A i a b else none) = _
  rw [if_pos rfl]
  unfold runF
  rw [dif_pos hex]
 ·obtain ⟨x', m', l', S', h', hp⟩ := hsp
  obtain ⟨rfl, rfl⟩ := h.hs.inj h'.hs (by rw [h.xm, h'.xm])
  obtain ⟨c0, c1, pb⟩ := h.pb
  obtain ⟨c0', c1', pb'⟩ := h'.pb
  rw [pb] at pb'
  simp only [Option.some.injEq, AObj.cells.injEq, List.cons.injEq, AV.d.injEq, Dat.slice.injEq, and_true] at pb'
  rw [stm_inj pb'.2.2]
  exact hp
structure Free (g : Gh) (b : Nat) : Prop where
 own : g.own b = none
 st : ∀ o, ¬ g.S b o
theorem loose {W0 W : World} {g0 g : Gh} {A0 A : AHeap} (hw : WRel W g A) (he : Ev W0 g0 A0 W g A) {b i : Nat} {v : Value} (hf : Free g b) (hb : W0.heap.size ≤ b) : WRel (W.setCell ⟨b, i, none⟩ v) g A ∧ Ev W0 g0 A0 (W.setCell ⟨b, i, none⟩ v) g A := by
 have hl : Local W (W.setCell ⟨b, i, none⟩ v) b := ⟨set_size, fun k hk => set_other hk, ⟨rfl, rfl⟩⟩
 exact ⟨hw.loc hl hf.st hf.own, he.loc hl hf.st hb⟩
theorem loose5 {W0 W : World} {g0 g : Gh} {A0 A : AHeap} (hw : WRel W g A) (he : Ev W0 g0 A0 W g A) {b q : Nat} (hf : Free g b) (hq : Free g q) (hb : W0.heap.size ≤ b) (hbq : W0.heap.size ≤ q) (v1 v2 v3 v4 y : Value) : WRel (put5 W b q v1 v2 v3 v4 y) g A ∧ Ev W0 g0 A0 (put5 W b q v1 v2 v3 v4 y) g A := by
 obtain ⟨w1, e1⟩ := loose (i := 0) (v := v1) hw he hf hb
 obtain ⟨w2, e2⟩ := loose (i := 1) (v := v2) w1 e1 hf hb
 obtain ⟨w3, e3⟩ := loose (i := 2) (v := v3) w2 e2 hf hb
 obtain ⟨w4, e4⟩ := loose (i := 3) (v := v4) w3 e3 hf hb
 exact loose (i := 0) (v := y) w4 e4 hq hbq
theorem kept_of {W W1 : World} {g g1 : Gh} {A A1 : AHeap} (hw : WRel W g A) (he : Ev (two W) g A W1 g1 A1) :
  Kept W1 W.heap.size (W.heap.size + 1) (.int .i64 0) (.int .i64 0) (.slice none 0 0) (.string ⟨#[]⟩) (.bool false) ∧ Free g1 W.heap.size ∧ Free g1 (W.heap.size + 1) := by
 have sz : (two W).heap.size = W.heap.size + 2 := by simp [two]
 have no : ∀ b, W.heap.size ≤ b → g.own b = none := fun b hb => by
  cases ho : g.own b with
  | none => rfl
  | some o => have := hw.lt _ _ ho; omega
 have nS : ∀ b, W.heap.size ≤ b → ∀ o, ¬ g.S b o := fun b hb o hs => by have := hw.stab _ _ hs; omega
 have h0 : (two W).heap[W.heap.size]? = some (.cells #[.int .i64 0, .int .i64 0, .slice none 0 0, .string ⟨#[]⟩] 106 (0, 0)) := alloc_lt (heap_alloc_new W _)
 have h1 : (two W).heap[W.heap.size + 1]? = some (.cells #[.bool false] 4 (0, 0)) := by
  have := heap_alloc_new (W.alloc (.cells #[.int .i64 0, .int .i64 0, .slice none 0 0, .string ⟨#[]⟩] 106)) (.cells #[.bool false] 4)
  simpa [two] using this
 obtain ⟨f1, f2, f3⟩ := he.free W.heap.size (by omega) (no _ (Nat.le_refl _))
 obtain ⟨k1, k2, k3⟩ := he.free (W.heap.size + 1) (by omega) (no _ (by omega))
 exact ⟨⟨by rw [f1]; exact h0, by rw [k1]; exact h1, by omega⟩, ⟨f2, fun o x => nS _ (Nat.le_refl _) o (f3 o x)⟩, ⟨k2, fun o x => nS _ (by omega) o (k3 o x)⟩⟩
theorem func_args {W : World} {g : Gh} {A : AHeap} {f : FuncId} {a b : Nat} {v : Value} (h : RelV W g A (.func (.func f) [] [.ptr a 0, .ptr b 0]) v) : ∃ us : List Value, v = .func (.func f) #[] us.toArray ∧ RelL W g A [.ptr a 0, .ptr b 0] us := by
 cases h with
 | func fn first captured vs us h1 h2 r1 r2 =>
   have : vs = [] := List.eq_nil_of_length_eq_zero (by simpa using h1.symm)
   subst this
   exact ⟨us, rfl, h2, r2⟩
theorem stop_value {W : World} {g : Gh} {A : AHeap} {z : Stp} {v : Value} (h : RelV W g A z.av v) : ∃ (a3 : Option Addr) (c3 : Nat) (a4 : ByteArray), v = .agg #[.int .i64 z.st, .int .i64 z.code, .slice a3 0 c3, .string a4] ∧ a4.data.toList = z.miss := by
 unfold Stp.av at h
 cases h with
 | agg cs vs hl hr =>
   match vs, hl with
   | [v0, v1, v2, v3], _ =>
     have h0 := hr 0 _ _ rfl rfl
     have h1 := hr 1 _ _ rfl rfl
     have h2 := hr 2 _ _ rfl rfl
     have h3 := hr 3 _ _ rfl rfl
     cases h0 with | d _ _ h0 => cases h0; cases h1 with | d _ _ h1 => cases h1; cases h2 with | d _ _ h2 => cases h3 with | d _ _ h3 =>
      have h2' : ∃ a c, v2 = .slice a 0 c := by
       generalize hq : Dat.slice [] = d at h2
       cases h2 with
       | empty a cap => exact ⟨a, cap, rfl⟩
       | slice rows b o cap sz val => simp only [Dat.slice.injEq] at hq; subst hq; exact ⟨_, cap, rfl⟩
       | _ => cases hq
      obtain ⟨a, c, rfl⟩ := h2'
      generalize hq : z.miss = ms at h3
      cases h3 with
      | str s => exact ⟨a, c, s, rfl, rfl⟩
theorem stop_rel {W : World} {g : Gh} {A : AHeap} {z : Stp} {b : Bool} {a3 : Option Addr} {c3 : Nat} {a4 : ByteArray} (h : a4.data.toList = z.miss) : RelV W g A (.tuple [z.av, .d (.bool b)]) (.tuple #[.agg #[.int .i64 z.st, .int .i64 z.code, .slice a3 0 c3, .string a4], .bool b]) := by
 refine .tuple _ [.agg #[.int .i64 z.st, .int .i64 z.code, .slice a3 0 c3, .string a4], .bool b] rfl fun i x v k1 k2 => ?_
 match i with
 | 0 =>
   simp at k1 k2; subst k1; subst k2
   refine .agg _ [.int .i64 z.st, .int .i64 z.code, .slice a3 0 c3, .string a4] rfl fun i x v k1 k2 => ?_
   match i with
   | 0 => simp at k1 k2; subst k1; subst k2; exact .d _ _ (.int _ _)
   | 1 => simp at k1 k2; subst k1; subst k2; exact .d _ _ (.int _ _)
   | 2 => simp at k1 k2; subst k1; subst k2; exact .d _ _ (.empty _ _)
   | 3 => simp at k1 k2; subst k1; subst k2; rw [← h]; exact .d _ _ (.str a4)
   | i + 4 => simp at k2
 | 1 => simp at k1 k2; subst k1; subst k2; exact .d _ _ (.bool _)
 | i + 2 => simp at k2
theorem run_okI : CallOk1I Tryz.prog IT 49 runFn := by
 intro xs A r A' hx
 unfold runFn at hx
 split at hx
 case h_2 => cases hx
 rename_i i f a b
 split at hx
 case isFalse => cases hx
 rename_i hf
 subst hf
 unfold runF at hx
 split at hx
 case isFalse => cases hx
 rename_i hex
 obtain ⟨x, m, l, S, hpre, hpost⟩ := Classical.choose_spec hex
 simp only [Option.some.injEq] at hx
 rw [hx] at hpost
 refine ⟨⟨_, Tryz.func49, by kernel_rfl, by kernel_rfl⟩, fun W g vs hi hw hr => ?_⟩
 obtain ⟨mv, fv, rfl, hmv, hfv⟩ := two_args hr
 obtain ⟨us, rfl, hus⟩ := func_args hfv
 have p1 : Go.Abs.plainObj (.cells #[.int .i64 0, .int .i64 0, .slice none 0 0, .string ⟨#[]⟩] 106) := by trivial
 have p2 : Go.Abs.plainObj (.cells #[.bool false] 4) := by trivial
 have w2 : WRel (two W) g A := WRel.alloc (WRel.alloc hw p1) p2
 have e2 : Ev W g A (two W) g A := (Ev.alloc hw p1).trans (Ev.alloc (WRel.alloc hw p1) p2)
 have i2 : IT (two W) g := IT_closed _ _ _ _ _ _ hi e2
 have r2 : RelL (two W) g A [.ptr a 0, .ptr b 0] us := ⟨hus.1, fun i x v k1 k2 => e2.toEvV.relV (hus.2 i x v k1 k2)⟩
 cases hrr : exL l m with
 | ok mF =>
   rw [hrr] at hpost
   obtain ⟨q1, q2, q3, q4⟩ := hpost
   simp only at q1 q2
   have hc := (acl_okI IT_closed mixed extOkI _ _ _ _ _ q2).2 (two W) g us i2 w2 r2
   have hB : Calls Tryz.prog 50 us.toArray (two W) fun e W1 => e = .returned (.tuple #[]) ∧ ∃ g1, WRel W1 g1 A' ∧ Ev (two W) g A W1 g1 A' := by
    refine Calls.mono hc ?_
    rintro e W1 ⟨v, g1, rfl, k1, k2, k3⟩
    refine ⟨?_, g1, k2, k3⟩
    cases k1 with
    | tuple cs vs hl hr =>
      have : vs = [] := List.eq_nil_of_length_eq_zero (by simpa using hl.symm)
      subst this
      rfl
   refine (run_ends mv us.toArray W _ hB (fun W1 ⟨g1, k1, k2⟩ => (kept_of hw k2).1)).mono ?_
   rintro e W' ⟨rfl, W1, ⟨g1, k1, k2⟩, rfl⟩
   obtain ⟨K, F1, F2⟩ := kept_of hw k2
   obtain ⟨w5, e5⟩ := loose5 k1 (e2.trans k2) F1 F2 (Nat.le_refl _) (by omega) (.int .i64 0) (.int .i64 0) (.slice none 0 0) (.string ⟨#[]⟩) (.bool false)
   exact ⟨_, g1, rfl, by rw [q1]; exact stop_rel (z := noS) rfl, w5, e5⟩
 | stop z mF =>
   rw [hrr] at hpost
   obtain ⟨q1, ⟨y, B, q2, hy, hB'⟩, q3, q4⟩ := hpost
   rw [hy, hB'] at q2
   simp only at q1 q2
   have hc := (pan_ok IT_closed mixed extOkI pxOk q2).2 (two W) g us i2 w2 r2
   have hB : Calls Tryz.prog 50 us.toArray (two W) fun e W1 => ∃ a3 c3 a4, e = .panicked [{ v := .iface 106 (.agg #[.int .i64 z.st, .int .i64 z.code, .slice a3 0 c3, .string a4]), recovered := false }] ∧ a4.data.toList = z.miss ∧ ∃ g1, WRel W1 g1 A' ∧ Ev (two W) g A W1 g1 A' := by
    refine Calls.mono hc ?_
    rintro e W1 ⟨v, g1, rfl, k1, k2, k3⟩
    obtain ⟨a3, c3, a4, rfl, h4⟩ := stop_value k1
    exact ⟨a3, c3, a4, rfl, h4, g1, k2, k3⟩
   refine (run_stops mv us.toArray W _ _ _ hB (fun a3 c3 a4 W1 ⟨_, g1, k1, k2⟩ => (kept_of hw k2).1)).mono ?_
   rintro e W' ⟨a3, c3, a4, W1, rfl, ⟨h4, g1, k1, k2⟩, rfl⟩
   have p3 : Go.Abs.plainObj (.cells #[.int .i64 z.st, .int .i64 z.code, .slice a3 0 c3, .string a4] 106) := by trivial
   obtain ⟨K, F1, F2⟩ := kept_of hw k2
   obtain ⟨w5, e5⟩ := loose5 (WRel.alloc k1 p3) ((e2.trans k2).trans (Ev.alloc k1 p3)) F1 F2 (Nat.le_refl _) (by omega) (.int .i64 z.st) (.int .i64 z.code) (.slice a3 0 c3) (.string a4) (.bool true)
   exact ⟨_, g1, rfl, by rw [q1]; exact stop_rel h4, w5, e5⟩
end Go.Proofs.YtpbdjgdmhfibmaaGreatDoor
namespace Go.Proofs.YtpbdjgdmhfibmaaGreatDoor
open Go.Abs
set_option maxRecDepth 100000
noncomputable def extD (f : FuncId) : Option AFun := bif Nat.beq f 117 then some (outFn fstF) else bif Nat.beq f 49 then some runFn else bif Nat.beq f 8 then none else C.ext f
noncomputable def D : ACtx := { C with ext := extD }
theorem extOkD : ∀ f h, D.ext f = some h → CallOk1I D.P IT f h := by
 intro f h hf
 have key : D.ext f = extD f := rfl
 rw [key] at hf
 unfold extD at hf
 cases h1 : Nat.beq f 117 with
 | true =>
   rw [h1] at hf
   cases hf
   obtain rfl : f = 117 := Nat.eq_of_beq_eq_true h1
   exact fst_okI
 | false =>
 cases h2 : Nat.beq f 49 with
 | true =>
   rw [h1, h2] at hf
   cases hf
   obtain rfl : f = 49 := Nat.eq_of_beq_eq_true h2
   exact run_okI
 | false =>
 cases h3 : Nat.beq f 8 with
 | true => rw [h1, h2, h3] at hf; cases hf
 | false => rw [h1, h2, h3] at hf; exact extOkI f h hf
theorem mixedD : D.P.follows .mixedOrders = true := mixed
@[go_sem] theorem D_P : D.P = Tryz.prog := by rfl
@[go_sem] theorem D_live : D.live = C.live := by rfl
@[go_sem] theorem D_esc : D.esc = C.esc := by rfl
@[go_sem] theorem D_own : D.own = C.own := by rfl
@[go_sem] theorem D_typed : D.typed = C.typed := by rfl
@[go_sem] theorem D_nilT : D.nilT = fun _ => false := by rfl
theorem up {f : FuncId} {args : List AV} {A : AHeap} {r : AV × AHeap} (h : acl C f args A = some r) : acl D f args A = some r := by
 refine acl_up (c := C) (e := extD) (fun f => ?_) h
 have k1 : C.ext f = bif extL.contains f then some failFn else extT f := rfl
 have fl : extL.contains f = true → ∃ k, C.ext f = some k ∧ ∀ args A r, k args A = some r → ∃ k', extD f = some k' ∧ k' args A = some r := fun hb => by
  rw [hb] at k1
  exact ⟨failFn, k1, fun args A r h => by cases h⟩
 cases h1 : Nat.beq f 117 with
 | true =>
   obtain rfl : f = 117 := Nat.eq_of_beq_eq_true h1
   exact .inr (fl (by decide))
 | false =>
 cases h2 : Nat.beq f 49 with
 | true =>
   obtain rfl : f = 49 := Nat.eq_of_beq_eq_true h2
   exact .inr (fl (by decide))
 | false =>
 cases h3 : Nat.beq f 8 with
 | true =>
   obtain rfl : f = 8 := Nat.eq_of_beq_eq_true h3
   exact .inr (fl (by decide))
 | false =>
   have ke : extD f = C.ext f := by unfold extD; rw [h1, h2, h3]; rfl
   cases hc : C.ext f with
   | none => exact .inl ⟨rfl, by rw [ke, hc]⟩
   | some k => exact .inr ⟨k, rfl, fun args A r hr => ⟨k, by rw [ke, hc], hr⟩⟩
theorem firstD (p : Pr) (hp : p.Ok) (h : valS p = 0 → (opsEs (exprsS p)).length ≤ 1099511627776) (A : AHeap) : acl D 117 [Pr.av p] A = some (.tuple [.d (.int .i64 (fstP p).1), .d (.int .i64 (fstP p).2.1), .d (.bool (fstP p).2.2)], A) := by
 rw [acl_ext (c := D) (f := 117) (g := outFn fstF) rfl]
 have hr := argP_row hp h
 have hc : acleanVs A [Pr.av p] = ([Pr.av p], A) := by rfl
 unfold outFn
 rw [hc]
 simp only [fstF, hr, Option.map_some]
theorem runD {A : AHeap} {i a b : Nat} {x : Ids} {m : Mc} {l : List Stm} {S : Nat} (h : RunPre A i a b x m l S) : ∃ r, acl D 49 [.ptr i 0, .func (.func 50) [] [.ptr a 0, .ptr b 0]] A = some r ∧ RunPost A a b x r (exL l m) := by
 obtain ⟨r, h1, h2⟩ := run_post h
 exact ⟨r, by rw [acl_ext (c := D) (f := 49) (g := runFn) rfl, h1], h2⟩
theorem kD {f nt : Nat} {code : Code} {fn : Func} {args : List AV} {A : AHeap} {ra : Array ResultVar} (hf : Tryz.prog.funcs[f]? = some fn) (hb : fn.body = some code) (hnt : fn.ntmps = nt) (hrs : fn.results = ra) (hg : D.ext f = none := by rfl) (hk : okL.contains f = true := by kernel_rfl) (ho : D.own f = false := by rfl) (hn : args.length ≤ nt := by simp) :
  acl D f args A = cek ⟨D, f, nt, ra.toList, A⟩ [] code (aenter 0 (acleanVs A args).1) (acleanVs A args).2 := k_call (c := D) hg hf hb (ok f hk) ho hnt hrs hn
attribute [local congr] ite_congr
theorem plainVP (s : Bytes) (A : AHeap) (hl : s.length ≤ 1099511627776) : acl C 165 [.d (.str s)] A = some (.d (.bool (plainS s)), A) := by
 rw [kC Tryz.func165 rfl Tryz.ntmps165 Tryz.results165]
 simp +contextual only [go_sem, acondK_bool]
 refine loop_list (fun n => [(0, .v (.d (.str s))), (3, .v (.d (.int .i64 (n : Int))))]) (fun pre suf => some (.d (.bool (suf.all inner && decide ((s.length : Int) ≤ 64))), A)) s rfl (by simp [plainS]) ?_
 intro pre suf h ih
 subst h
 have hb : pre.length < 9223372036854775807 := by simp at hl; omega
 cases suf with
 | nil => simp +contextual only [go_sem, acondK_bool]
 | cons x suf =>
   simp +contextual only [go_sem, acondK_bool, ih x suf rfl, wrap_nat hb]
   refine leafB ?_
   cases hx : inner x <;> simp [hx] <;> simp [inner] at hx <;> omega
def valV (v : Vl) : Bool := if decide (v.kind = 0) = true then (decide (v.n = 0) && (v.s == [])) else if decide (v.kind = 1) = true then v.s == [] else if decide (v.kind = 2) = true then (decide (v.n = 0) && plainS v.s) else false
theorem valVP (v : Vl) (A : AHeap) (hl : v.s.length ≤ 1099511627776) : acl C 120 [v.av] A = some (.d (.bool (valV v)), A) := by
 have p1 := plainVP v.s A hl
 unfold valV
 rw [kC Tryz.func120 rfl Tryz.ntmps120 Tryz.results120]
 cases h0 : decide (v.kind = 0) with
 | true =>
   have k0 : v.kind = 0 := by simpa using h0
   cases h1 : decide (v.n = 0) <;> cases h2 : (v.s == []) <;> simp only [go_sem, acondK_bool, h0, h1, h2, k0, Vl.av, decide_true]
 | false =>
 cases h1 : decide (v.kind = 1) with
 | true => cases h2 : (v.s == []) <;> simp only [go_sem, acondK_bool, h0, h1, h2, Vl.av]
 | false =>
 cases h2 : decide (v.kind = 2) with
 | true =>
   cases h3 : decide (v.n = 0) with
   | false => simp only [go_sem, acondK_bool, h0, h1, h2, h3, Vl.av]
   | true => simp only [go_sem, acondK_bool, h0, h1, h2, h3, p1, Vl.av]
 | false => simp only [go_sem, acondK_bool, h0, h1, h2, Vl.av]
def srtS : Option Bytes → List Kv → Bool
 | _, [] => true
 | pv, p :: l => keyV p.key && (valV p.v && ((match pv with
   | none => true
   | some k => Op.bytesLess k p.key) && srtS (some p.key) l))
theorem geqS (t : TypeId) (a b : Bytes) : abin Tryz.prog .geq t (.d (.str a)) (.d (.str b)) = some (.d (.bool (!Op.bytesLess a b))) := by rfl
theorem sortedP (l : List Kv) (A : AHeap) (hl : l.length ≤ 1099511627776) (hk : ∀ p ∈ l, p.key.length ≤ 1099511627776 ∧ p.v.s.length ≤ 1099511627776) : acl C 83 [.d (.slice (l.map Kv.row))] A = some (.d (.bool (srtS none l)), A) := by
 rw [kC Tryz.func83 rfl Tryz.ntmps83 Tryz.results83]
 simp only [go_sem, acondK_bool]
 refine loop_any (fun pre => [(6, .v (.d (.int .i64 (l.length : Nat)))), (5, .v (.d (.slice (l.map Kv.row)))), (0, .v (.d (.slice (l.map Kv.row)))), (7, .v (.d (.int .i64 (pre.length : Nat))))])
  (fun _ => A) (fun pre suf => some (.d (.bool (srtS (pre.getLast?.map Kv.key) suf)), A)) l rfl rfl rfl ?_
 intro pre suf h ih
 have hb : pre.length < 9223372036854775807 := by rw [h] at hl; simp at hl; omega
 cases suf with
 | nil =>
   have e4 : decide ((pre.length : Int) < (l.length : Int)) = false := by rw [h]; simp
   simp only [go_sem, acondK_bool, e4, srtS]
 | cons x suf =>
   have e2 := ih x suf rfl
   rw [List.length_append, List.length_cons, List.length_nil] at e2
   simp only [List.getLast?_append, List.getLast?_singleton, Option.some_or, Option.map_some] at e2
   have e3 : (l.map Kv.row)[pre.length]? = some [.str x.key, .int .i64 x.v.kind, .int .i64 x.v.n, .str x.v.s] := by rw [h]; exact map_mid
   have e4 : decide ((pre.length : Int) < (l.length : Int)) = true := by rw [h]; simp; omega
   have hx := hk x (by rw [h]; simp)
   have k1 := keyVP x.key A hx.1
   have v1 := valVP x.v A hx.2
   simp only [Vl.av] at v1
   simp only [srtS]
   cases h1 : keyV x.key with
   | false =>
     rw [h1] at k1
     simp only [go_sem, acondK_bool, e3, e4, k1, k_drawn_q]
   | true =>
   rw [h1] at k1
   cases h2 : valV x.v with
   | false =>
     rw [h2] at v1
     simp only [go_sem, acondK_bool, e3, e4, k1, v1, k_drawn_q]
   | true =>
   rw [h2] at v1
   rcases List.eq_nil_or_concat pre with rfl | ⟨pre', q, rfl⟩
   ·rw [show ((([] : List Kv).length + (0 + 1) : Nat) : Int) = 1 from rfl] at e2
    have w1 : IntKind.i64.wrap 1 = 1 := by decide
    have e4 : decide ((0 : Int) < (l.length : Nat)) = true := e4
    simp only [List.length_nil, Nat.zero_add, List.getLast?_nil, Option.map_none] at e2 e3 e4 ⊢
    simp only [go_sem, acondK_bool, e2, e3, e4, k1, v1, k_drawn_q, w1]
   ·have e6 : (l.map Kv.row)[pre'.length]? = some [.str q.key, .int .i64 q.v.kind, .int .i64 q.v.n, .str q.v.s] := by rw [h, List.concat_eq_append, List.append_assoc]; exact map_mid
    have e7 : IntKind.i64.wrap (((pre'.concat q).length : Int) - 1) = (pre'.length : Nat) := by
     have e0 : ((pre'.concat q).length : Int) - 1 = (pre'.length : Nat) := by simp
     rw [List.length_concat] at hb
     rw [e0]
     exact wrap_in (by omega) (by omega)
    have e8 : decide ((0 : Int) < ((pre'.concat q).length : Nat)) = true := by rw [List.length_concat]; exact decide_eq_true (by omega)
    have e9 : ((pre'.concat q).getLast?.map Kv.key) = some q.key := by simp
    rw [e9]
    simp only
    cases h3 : Op.bytesLess q.key x.key with
    | true => simp only [go_sem, acondK_bool, e2, e3, e4, e6, e7, e8, k1, v1, h3, geqS, k_drawn_q, wrap_nat hb]
    | false => simp only [go_sem, acondK_bool, e3, e4, e6, e7, e8, k1, v1, h3, geqS, k_drawn_q]
theorem absentP (p : Kv) (A : AHeap) : acl C 85 [.agg [.d (.str p.key), .d (.int .i64 p.v.kind), .d (.int .i64 p.v.n), .d (.str p.v.s)]] A = some (.d (.bool (decide (p.v.kind = 0))), A) := by
 rw [kC Tryz.func85 rfl Tryz.ntmps85 Tryz.results85]
 simp only [go_sem, acondK_bool]
def absF : List Kv → Nat → Int
 | [], _ => -1
 | p :: l, i => if decide (p.v.kind = 0) = true then (i : Nat) else absF l (i + 1)
theorem absF_neg : ∀ (l : List Kv) (i : Nat), decide (0 ≤ absF l i) = l.any fun p => decide (p.v.kind = 0)
 | [], _ => rfl
 | p :: l, i => by
   unfold absF
   cases h : decide (p.v.kind = 0) with
   | true => simp [h]
   | false => simp only [List.any_cons, h, Bool.false_or, Bool.false_eq_true, if_false]; exact absF_neg l (i + 1)
theorem indexFP (l : List Kv) (A : AHeap) (hl : l.length ≤ 1099511627776) : acl C 121 [.d (.slice (l.map Kv.row)), .func (.func 85) [] []] A = some (.d (.int .i64 (absF l 0)), A) := by
 rw [kC Tryz.func121 rfl Tryz.ntmps121 Tryz.results121]
 simp only [go_sem, acondK_bool]
 refine loop_any (fun pre => [(7, .v (.d (.int .i64 (l.length : Nat)))), (1, .v (.func (.func 85) [] [])), (0, .v (.d (.slice (l.map Kv.row)))), (8, .v (.d (.int .i64 (pre.length : Nat))))])
  (fun _ => A) (fun pre suf => some (.d (.int .i64 (absF suf pre.length)), A)) l rfl rfl rfl ?_
 intro pre suf h ih
 have hb : pre.length < 9223372036854775807 := by rw [h] at hl; simp at hl; omega
 cases suf with
 | nil =>
   have e4 : decide ((pre.length : Int) < (l.length : Int)) = false := by rw [h]; simp
   simp only [go_sem, acondK_bool, e4, absF]
 | cons x suf =>
   have e2 := ih x suf rfl
   rw [List.length_append, List.length_cons, List.length_nil] at e2
   have e3 : (l.map Kv.row)[pre.length]? = some [.str x.key, .int .i64 x.v.kind, .int .i64 x.v.n, .str x.v.s] := by rw [h]; exact map_mid
   have e4 : decide ((pre.length : Int) < (l.length : Int)) = true := by rw [h]; simp; omega
   have a1 := absentP x A
   simp only [absF]
   cases h1 : decide (x.v.kind = 0) with
   | true =>
     rw [h1] at a1
     simp only [go_sem, acondK_bool, e3, e4, a1]
   | false =>
     rw [h1] at a1
     simp only [go_sem, acondK_bool, e2, e3, e4, a1, wrap_nat hb]
theorem containsFP (l : List Kv) (A : AHeap) (hl : l.length ≤ 1099511627776) : acl C 84 [.d (.slice (l.map Kv.row)), .func (.func 85) [] []] A = some (.d (.bool (l.any fun p => decide (p.v.kind = 0))), A) := by
 have i := indexFP l A hl
 rw [← absF_neg l 0]
 rw [kC Tryz.func84 rfl Tryz.ntmps84 Tryz.results84]
 simp only [go_sem, acondK_bool, i]
def stV (l : List Kv) : Bool := srtS none l && !(l.any fun p => decide (p.v.kind = 0))
theorem stVP (l : List Kv) (A : AHeap) (hl : l.length ≤ 1099511627776) (hk : ∀ p ∈ l, p.key.length ≤ 1099511627776 ∧ p.v.s.length ≤ 1099511627776) : acl C 44 [.d (.slice (l.map Kv.row))] A = some (.d (.bool (stV l)), A) := by
 have s := sortedP l A hl hk
 have c := containsFP l A hl
 unfold stV
 rw [kC Tryz.func44 rfl Tryz.ntmps44 Tryz.results44]
 cases h : srtS none l with
 | true =>
   rw [h] at s
   simp only [go_sem, acondK_bool, s, c]
 | false =>
   rw [h] at s
   simp only [go_sem, acondK_bool, s]
theorem wrongP (A : AHeap) : acl C 46 [] A = some (.agg [.d (.int .i64 2), .d (.int .i64 1009), .d (.slice []), .d (.slice []), .d (.slice []), .d (.slice []), .d (.str []), .d (.int .i64 0)], A) := by
 rw [kC Tryz.func46 rfl Tryz.ntmps46 Tryz.results46]
 simp only [go_sem, acondK_bool]
def effAV (st code : Int) (out rd wr ws : List (List Dat)) (miss : Bytes) (steps : Int) : AV :=
 .agg [.d (.int .i64 st), .d (.int .i64 code), .d (.slice out), .d (.slice rd), .d (.slice wr), .d (.slice ws), .d (.str miss), .d (.int .i64 steps)]
def ClS (bs : List ABuf) (v : AV) (rows : List (List Dat)) : Prop := v = .d (.slice rows) ∨ ∃ e sz, ownS bs v e sz rows
theorem cleanO {A : AHeap} {v : AV} {rows : List (List Dat)} (h : ClS A.bufs v rows) : ∃ bs, aclean A v = (.d (.slice rows), ⟨A.objs, bs⟩) ∧ bs.length = A.bufs.length ∧ ∀ t, (∀ n, v ≠ .own t n) → bs[t]? = A.bufs[t]? := by
 rcases h with rfl | ⟨e, sz, ⟨rfl, rfl⟩ | ⟨tok, rfl, hb⟩⟩
 ·exact ⟨A.bufs, rfl, rfl, fun _ _ => rfl⟩
 ·exact ⟨A.bufs, rfl, rfl, fun _ _ => rfl⟩
 ·refine ⟨(A.freeze tok).bufs, ?_, by simp [AHeap.freeze], fun t ht => ?_⟩
  ·simp only [aclean, arows, hb]
   simp only [Nat.zero_le, and_self, if_true]
   rfl
  ·have hne : t ≠ tok := fun e => ht rows.length (by rw [e])
   rw [freeze_get, if_neg hne]
theorem ClS.step {bs bs' : List ABuf} {v w : AV} {rows : List (List Dat)} (h : ClS bs w rows) (hk : ∀ t, (∀ n, v ≠ .own t n) → bs'[t]? = bs[t]?) (hd : tokF v w) : ClS bs' w rows := by
 rcases h with rfl | ⟨e, sz, ⟨rfl, rfl⟩ | ⟨tok, rfl, hb⟩⟩
 ·exact .inl rfl
 ·exact .inr ⟨e, sz, .inl ⟨rfl, rfl⟩⟩
 ·refine .inr ⟨e, sz, .inr ⟨tok, rfl, ?_⟩⟩
  rw [hk tok (fun n hv => hd tok n tok rows.length hv rfl rfl)]
  exact hb
theorem clean_eff {A : AHeap} {O R V W : AV} {o r v w : List (List Dat)} (hO : ClS A.bufs O o) (hR : ClS A.bufs R r) (hV : ClS A.bufs V v) (hW : ClS A.bufs W w) (d1 : tokF O R) (d2 : tokF O V) (d3 : tokF R V) (d4 : tokF O W) (d5 : tokF R W) (d6 : tokF V W) (a0 a1 a6 a7 : Dat) :
  ∃ bs, acleanR A (.agg [.d a0, .d a1, O, R, V, W, .d a6, .d a7]) = (.agg [.d a0, .d a1, .d (.slice o), .d (.slice r), .d (.slice v), .d (.slice w), .d a6, .d a7], ⟨A.objs, bs⟩) ∧ bs.length = A.bufs.length ∧
    ∀ t, (∀ n, O ≠ .own t n ∧ R ≠ .own t n ∧ V ≠ .own t n ∧ W ≠ .own t n) → bs[t]? = A.bufs[t]? := by
 obtain ⟨b1, e1, l1, k1⟩ := cleanO hO
 obtain ⟨b2, e2, l2, k2⟩ := cleanO (A := ⟨A.objs, b1⟩) (hR.step k1 d1)
 obtain ⟨b3, e3, l3, k3⟩ := cleanO (A := ⟨A.objs, b2⟩) ((hV.step k1 d2).step k2 d3)
 obtain ⟨b4, e4, l4, k4⟩ := cleanO (A := ⟨A.objs, b3⟩) (((hW.step k1 d4).step k2 d5).step k3 d6)
 refine ⟨b4, ?_, by simp only at l2 l3 l4; omega, fun t ht => ?_⟩
 ·simp only at e2 e3 e4
  have c : ∀ (A : AHeap) (x : Dat), aclean A (.d x) = (.d x, A) := fun A x => by cases x <;> rfl
  simp only [acleanR, acleanV, acleans, c, e1, e2, e3, e4]
 ·simp only at k2 k3 k4
  rw [k4 t (fun n => (ht n).2.2.2), k3 t (fun n => (ht n).2.2.1), k2 t (fun n => (ht n).2.1), k1 t (fun n => (ht n).1)]
theorem fin_eff {f : FuncId} (ho : C.own f = false) {B : AHeap} {ext : List ABuf} {O R V W : AV} {o r v w : List (List Dat)} (hO : ClS (B.bufs ++ ext) O o) (hR : ClS (B.bufs ++ ext) R r) (hV : ClS (B.bufs ++ ext) V v) (hW : ClS (B.bufs ++ ext) W w) (d1 : tokF O R) (d2 : tokF O V) (d3 : tokF R V) (d4 : tokF O W) (d5 : tokF R W) (d6 : tokF V W) (a0 a1 a6 a7 : Dat) :
  ∃ bs, afinR C f B ⟨B.objs, B.bufs ++ ext⟩ (some (.agg [.d a0, .d a1, O, R, V, W, .d a6, .d a7])) = some (.agg [.d a0, .d a1, .d (.slice o), .d (.slice r), .d (.slice v), .d (.slice w), .d a6, .d a7], ⟨B.objs, bs⟩) ∧
    ∀ t, t < B.bufs.length → (∀ n, O ≠ .own t n ∧ R ≠ .own t n ∧ V ≠ .own t n ∧ W ≠ .own t n) → bs[t]? = B.bufs[t]? := by
 obtain ⟨bs, e, l, k⟩ := clean_eff (A := ⟨B.objs, B.bufs ++ ext⟩) hO hR hV hW d1 d2 d3 d4 d5 d6 a0 a1 a6 a7
 refine ⟨bs.take B.bufs.length, ?_, fun t ht hn => ?_⟩
 ·simp only [afinR, Option.map_some, afinish, ho, Bool.false_eq_true, if_false, e]
  unfold acut
  simp only [List.take_length, if_true]
  rfl
 ·rw [List.getElem?_take, if_pos ht, k t hn]
  exact List.getElem?_append_left ht
theorem ownS_one {bs : List ABuf} {v : AV} {e sz : Nat} {r : List (List Dat)} (h : ownS bs v e sz r) : v.one = true := by
 rcases h with ⟨rfl, _⟩ | ⟨t, rfl, _⟩ <;> rfl
structure Rest4 (B B' : AHeap) (x : Ids) : Prop where
 objs : B'.objs = B.objs
 bufs : ∀ t, t < B.bufs.length → ¬ used B x t → B'.bufs[t]? = B.bufs[t]?
theorem finishE {B : AHeap} {x : Ids} {m : Mc} (hS : HS B x m) (z : Stp) : ∃ B', acl C 48 [.ptr x.m 0, z.av, .d (.bool true)] B = some (effAV z.st z.code [] (srow m.reads) (srow m.writes) [] z.miss m.steps, B') ∧ Rest4 B B' x := by
 obtain ⟨ov, rv, wv, h⟩ := hS
 have hc := h.cell
 have nt : tokF (.d (.slice [])) rv ∧ tokF (.d (.slice [])) wv ∧ tokF (.d (.slice [])) .nilS ∧ tokF rv .nilS ∧ tokF wv .nilS := ⟨fun _ _ _ _ h => (by cases h), fun _ _ _ _ h => (by cases h), fun _ _ _ _ h => (by cases h), fun _ _ _ _ _ h => (by cases h), fun _ _ _ _ _ h => (by cases h)⟩
 obtain ⟨n1, n2, n3, n4, n5⟩ := nt
 obtain ⟨bs, e, k⟩ := fin_eff (f := 48) rfl (B := B) (ext := []) (O := .d (.slice [])) (R := rv) (V := wv) (W := .nilS) (o := []) (w := []) (.inl rfl) (by rw [List.append_nil]; exact .inr ⟨_, _, h.rd⟩) (by rw [List.append_nil]; exact .inr ⟨_, _, h.wr⟩) (.inr ⟨0, 0, .inl ⟨rfl, rfl⟩⟩) n1 n2 h.d3 n3 n4 n5 (.int .i64 z.st) (.int .i64 z.code) (.str z.miss) (.int .i64 m.steps)
 rw [List.append_nil] at e
 refine ⟨⟨B.objs, bs⟩, ?_, rfl, fun t ht hn => k t ht fun n => ⟨fun q => (by cases q), fun q => hn ⟨_, hc, n, by simp [mcell, q]⟩, fun q => hn ⟨_, hc, n, by simp [mcell, q]⟩, fun q => (by cases q)⟩⟩
 unfold mcell at hc
 have o1 := ownS_one h.out
 have o2 := ownS_one h.rd
 have o3 := ownS_one h.wr
 rw [kC Tryz.func48 rfl Tryz.ntmps48 Tryz.results48]
 simp only [go_sem, acondK_bool, k_drawn_t, hc, Stp.av, o1, o2, o3]
 refine Eq.trans ctB ?_
 simp only [go_sem, acondK_bool, e, effAV, o2, o3]
def putsR (own : List (Bytes × Vl)) (l : List Bytes) : List (List Dat) := l.map fun k => Kv.row ⟨k, (lookE own k).getD zeroV⟩
theorem putsR_all (own : List (Bytes × Vl)) (l : List Bytes) : (putsR own l).all (fun r => r.length == 4) = true := by
 simp [putsR, Kv.row]
theorem nm_len {A : AHeap} {v : AV} {l : List Bytes} (h : ownS A.bufs v 9 1 (srow l)) : alen A 2 v = some l.length := by
 rcases h with ⟨rfl, h0⟩ | ⟨t, rfl, hb⟩
 ·have : l = [] := by simpa [srow] using h0
  subst this; rfl
 ·simp only [alen, hb]
  simp [srow]
theorem grow_parts {A : AHeap} {e sz : Nat} {rows : List (List Dat)} {W : AV} {D : AHeap} (h : agrow A e sz rows = (W, D)) : W.one = true ∧ D.objs = A.objs ∧ (∃ ext, D.bufs = A.bufs ++ ext) ∧ ownS D.bufs W e sz rows ∧ ∀ t n, W = .own t n → A.bufs.length ≤ t := by
 unfold agrow at h
 split at h
 ·rename_i h0
  cases h
  exact ⟨rfl, rfl, ⟨[], by simp⟩, .inl ⟨rfl, h0⟩, fun t n e => (by cases e)⟩
 ·cases h
  exact ⟨rfl, rfl, ⟨_, rfl⟩, .inr ⟨_, rfl, by simp⟩, fun t n e => (by cases e; exact Nat.le_refl _)⟩
theorem ownS_cells {bs : List ABuf} {v : AV} {e sz : Nat} {r : List (List Dat)} (h : ownS bs v e sz r) : v.cells = [v] := by
 rcases h with ⟨rfl, _⟩ | ⟨t, rfl, _⟩ <;> rfl
theorem ownS_app {bs ext : List ABuf} {v : AV} {e sz : Nat} {r : List (List Dat)} (h : ownS bs v e sz r) : ownS (bs ++ ext) v e sz r := by
 rcases h with h | ⟨t, rfl, hb⟩
 ·exact .inl h
 ·exact .inr ⟨t, rfl, by rw [List.getElem?_append_left (List.getElem?_eq_some_iff.1 hb).1]; exact hb⟩
theorem ownS_lt {bs : List ABuf} {v : AV} {e sz : Nat} {r : List (List Dat)} (h : ownS bs v e sz r) {t n : Nat} (hv : v = .own t n) : t < bs.length := by
 rcases h with ⟨h, _⟩ | ⟨t', h, hb⟩
 ·rw [hv] at h; cases h
 ·rw [hv] at h; cases h; exact (List.getElem?_eq_some_iff.1 hb).1
theorem finishC {B : AHeap} {x : Ids} {m : Mc} (hS : HS B x m) (hw : m.writes.length ≤ 4194304) : ∃ B', acl C 48 [.ptr x.m 0, (⟨0, 0, []⟩ : Stp).av, .d (.bool false)] B = some (effAV 1 0 (m.out.map Vl.row) (srow m.reads) (srow m.writes) (putsR m.own m.writes) [] m.steps, B') ∧ Rest4 B B' x := by
 obtain ⟨ov, rv, wv, h⟩ := hS
 have hc := h.cell
 have hl := nm_len h.wr
 have o1 := ownS_one h.out
 have o2 := ownS_one h.rd
 have o3 := ownS_one h.wr
 -- the end
 obtain ⟨WF, DF, hF⟩ : ∃ W D, agrow B 71 4 (putsR m.own m.writes) = (W, D) := ⟨_, _, rfl⟩
 obtain ⟨f1, f2, ⟨ext, f3⟩, f4, f5⟩ := grow_parts hF
 have hDF : DF = ⟨B.objs, B.bufs ++ ext⟩ := by
  cases DF; simp only at f2 f3; rw [f2, f3]
 have fr : ∀ v : AV, ∀ e sz r, ownS B.bufs v e sz r → tokF v WF := fun v e sz r hv t n t' n' h1 h2 ht => by
  have := ownS_lt hv h1
  have := f5 t' n' h2
  omega
 rw [f3] at f4
 obtain ⟨bs, e, k⟩ := fin_eff (f := 48) rfl (B := B) (ext := ext) (O := ov) (R := rv) (V := wv) (W := WF) (.inr ⟨_, _, ownS_app h.out⟩) (.inr ⟨_, _, ownS_app h.rd⟩) (.inr ⟨_, _, ownS_app h.wr⟩) (.inr ⟨_, _, f4⟩) h.d1 h.d2 h.d3 (fr _ _ _ _ h.out) (fr _ _ _ _ h.rd) (fr _ _ _ _ h.wr) (.int .i64 1) (.int .i64 0) (.str []) (.int .i64 m.steps)
 rw [← hDF] at e
 refine ⟨⟨B.objs, bs⟩, ?_, rfl, fun t ht hn => k t ht fun n => ⟨fun q => hn ⟨_, hc, n, by simp [mcell, q]⟩, fun q => hn ⟨_, hc, n, by simp [mcell, q]⟩, fun q => hn ⟨_, hc, n, by simp [mcell, q]⟩, fun q => by have := f5 t n q; omega⟩⟩
 unfold mcell at hc
 rw [kC Tryz.func48 rfl Tryz.ntmps48 Tryz.results48]
 simp only [go_sem, acondK_bool, hc, o1, o2, o3, hl, Stp.av]
 refine loop_any (fun pre => [(27, .v (.d (.int .i64 (pre.length : Nat)))), (7, .box [.d (.int .i64 1), .d (.int .i64 0), ov, rv, wv, (agrow B 71 4 (putsR m.own pre)).1, .d (.str []), .d (.int .i64 m.steps)]), (0, .v (.ptr x.m 0)), (25, .v wv), (6, .box [.d (.int .i64 0), .d (.int .i64 0), .nilS, .nilS, .nilS, .nilS, .d (.str []), .d (.int .i64 0)]), (26, .v (.d (.int .i64 (m.writes.length : Nat))))])
  (fun pre => (agrow B 71 4 (putsR m.own pre)).2) (fun _ _ => some (effAV 1 0 (m.out.map Vl.row) (srow m.reads) (srow m.writes) (putsR m.own m.writes) [] m.steps, ⟨B.objs, bs⟩)) m.writes rfl rfl rfl ?_
 intro pre suf hps ih
 have hb : pre.length < 9223372036854775807 := by rw [hps] at hw; simp at hw; omega
 obtain ⟨W, D, hWD⟩ : ∃ W D, agrow B 71 4 (putsR m.own pre) = (W, D) := ⟨_, _, rfl⟩
 obtain ⟨g1, g2, ⟨ext', g3⟩, g4, g5⟩ := grow_parts hWD
 cases suf with
 | nil =>
   rw [List.append_nil] at hps
   have e4 : decide ((pre.length : Int) < (m.writes.length : Int)) = false := by rw [hps]; simp
   rw [← hps] at hWD
   rw [hF] at hWD
   cases hWD
   simp only [hps ▸ hF]
   simp only [go_sem, acondK_bool, e4, e, effAV, o1, o2, o3, f1]
 | cons w suf =>
   have e2 := ih w suf rfl
   rw [List.length_append, List.length_cons, List.length_nil] at e2
   have e4 : decide ((pre.length : Int) < (m.writes.length : Int)) = true := by rw [hps]; simp; omega
   have hlt : pre.length < m.writes.length := by rw [hps]; simp
   rcases h.wr with ⟨_, h0⟩ | ⟨tok, hwv, hbt⟩
   ·have : m.writes = [] := by simpa [srow] using h0
    rw [this] at hlt; simp at hlt
   have hsl : (srow m.writes).length = m.writes.length := by simp [srow]
   rw [hsl] at hwv
   have hbD : D.bufs[tok]? = some ⟨9, 1, srow m.writes, 0⟩ := by rw [g3, List.getElem?_append_left (List.getElem?_eq_some_iff.1 hbt).1]; exact hbt
   have hkw : m.writes.getD pre.length [] = w := by rw [hps]; simp
   have ld := own_ld (i := pre.length) hbD hlt
   rw [hkw] at ld
   have ix := own_idx (i := pre.length) hbD hlt
   have hcD : D.objs[x.m]? = B.objs[x.m]? := by rw [g2]
   rw [hc] at hcD
   have hoD : D.objs[x.o]? = some (.map (mapE m.own)) := by rw [g2]; exact h.own
   have fo := afind_mapE w m.own
   have ga := agrow_append (P := Tryz.prog) (A := B) (ty := 71) (sz := 4) (rows := putsR m.own pre) (src := putsR m.own [w]) room_71_4 (putsR_all _ _) (by rw [hps] at hw; simp [putsR] at hw ⊢; omega)
   have hpp : putsR m.own pre ++ putsR m.own [w] = putsR m.own (pre ++ [w]) := by simp [putsR]
   rw [hpp] at ga
   rw [hWD] at ga
   obtain ⟨W', D', hWD'⟩ : ∃ W D, agrow B 71 4 (putsR m.own (pre ++ [w])) = (W, D) := ⟨_, _, rfl⟩
   rw [hWD'] at ga e2
   have g1' := (grow_parts hWD').1
   have gc' := ownS_cells (grow_parts hWD').2.2.2.1
   subst hwv
   simp only [hWD]
   simp only [putsR, List.map_cons, List.map_nil, Kv.row] at ga
   cases hfo : lookE m.own w with
   | none =>
     rw [hfo] at fo ga
     simp only [Option.map_none, Option.getD_none, zeroV] at fo ga
     simp only [go_sem, acondK_bool, k_drawn_t, e4, ix, ld, hcD, hoD, fo, ga, g1, g1', gc', o1, o2, wrap_nat hb]
     refine Eq.trans ctB ?_
     simp only [go_sem, acondK_bool, e2, wrap_nat hb]
   | some v =>
     rw [hfo] at fo ga
     simp only [Option.map_some, Option.getD_some, Vl.av] at fo ga
     simp only [go_sem, acondK_bool, k_drawn_t, e4, ix, ld, hcD, hoD, fo, ga, g1, g1', gc', o1, o2, wrap_nat hb]
     refine Eq.trans ctB ?_
     simp only [go_sem, acondK_bool, e2, wrap_nat hb]
def sig1 (op : Int) : Bool := decide (op = 1) || decide (op = 25) || decide (op = 26) || decide (op = 27) || decide (op = 4) || decide (op = 5) || decide (op = 6) || decide (op = 7) || decide (op = 8) || decide (op = 9)
def sigW (op : Int) : Int := if sig1 op = true then 1 else if (decide (op = 2) || decide (op = 19) || decide (op = 23)) = true then 2 else if (decide (op = 16) || decide (op = 17) || decide (op = 18)) = true then 3 else if decide (op = 20) = true then 1 else 2
def sigR (op : Int) : Int := if sig1 op = true then 1 else if (decide (op = 2) || decide (op = 19) || decide (op = 23)) = true then 2 else if (decide (op = 16) || decide (op = 17) || decide (op = 18)) = true then 3 else if decide (op = 20) = true then 2 else if (decide (op = 21) || decide (op = 22)) = true then 1 else 3
theorem sigOf (op : Int) (A : AHeap) : acl C 211 [.d (.int .i64 op)] A = some (.tuple [.d (.int .i64 (sigW op)), .d (.int .i64 (sigR op))], A) := by
 rw [kC Tryz.func211 rfl Tryz.ntmps211 Tryz.results211]
 unfold sigW sigR
 cases h1 : sig1 op with
 | true =>
   unfold sig1 at h1
   by_cases a1 : op = 1 <;> by_cases a2 : op = 25 <;> by_cases a3 : op = 26 <;> by_cases a4 : op = 27 <;> by_cases a5 : op = 4 <;> by_cases a6 : op = 5 <;> by_cases a7 : op = 6 <;> by_cases a8 : op = 7 <;> by_cases a9 : op = 8 <;> by_cases a10 : op = 9 <;> first | (exfalso; omega) | (simp only [go_sem, acondK_bool, a1, a2, a3, a4, a5, a6, a7, a8, a9, a10]; done) | (exfalso; simp [a1, a2, a3, a4, a5, a6, a7, a8, a9, a10] at h1)
 | false =>
   unfold sig1 at h1
   simp only [Bool.or_eq_false_iff] at h1
   obtain ⟨⟨⟨⟨⟨⟨⟨⟨⟨h1, h2⟩, h3⟩, h4⟩, h5⟩, h6⟩, h7⟩, h8⟩, h9⟩, h10⟩ := h1
   cases b1 : decide (op = 2) with
   | true => simp only [go_sem, acondK_bool, h1, h2, h3, h4, h5, h6, h7, h8, h9, h10, b1]
   | false =>
   cases b2 : decide (op = 19) with
   | true => simp only [go_sem, acondK_bool, h1, h2, h3, h4, h5, h6, h7, h8, h9, h10, b1, b2]
   | false =>
   cases b3 : decide (op = 23) with
   | true => simp only [go_sem, acondK_bool, h1, h2, h3, h4, h5, h6, h7, h8, h9, h10, b1, b2, b3]
   | false =>
   cases b4 : decide (op = 16) with
   | true => simp only [go_sem, acondK_bool, h1, h2, h3, h4, h5, h6, h7, h8, h9, h10, b1, b2, b3, b4]
   | false =>
   cases b5 : decide (op = 17) with
   | true => simp only [go_sem, acondK_bool, h1, h2, h3, h4, h5, h6, h7, h8, h9, h10, b1, b2, b3, b4, b5]
   | false =>
   cases b6 : decide (op = 18) with
   | true => simp only [go_sem, acondK_bool, h1, h2, h3, h4, h5, h6, h7, h8, h9, h10, b1, b2, b3, b4, b5, b6]
   | false =>
   cases b7 : decide (op = 20) with
   | true => simp only [go_sem, acondK_bool, h1, h2, h3, h4, h5, h6, h7, h8, h9, h10, b1, b2, b3, b4, b5, b6, b7]
   | false =>
   cases b8 : decide (op = 21) with
   | true => simp only [go_sem, acondK_bool, h1, h2, h3, h4, h5, h6, h7, h8, h9, h10, b1, b2, b3, b4, b5, b6, b7, b8]
   | false =>
   cases b9 : decide (op = 22) with
   | true => simp only [go_sem, acondK_bool, h1, h2, h3, h4, h5, h6, h7, h8, h9, h10, b1, b2, b3, b4, b5, b6, b7, b8, b9]
   | false => simp only [go_sem, acondK_bool, h1, h2, h3, h4, h5, h6, h7, h8, h9, h10, b1, b2, b3, b4, b5, b6, b7, b8, b9]
def cmpS (op ty : Int) : Bool := !decide (ty = 3) || decide (op = 10) || decide (op = 11)
theorem comparedOf (op ty : Int) (A : AHeap) : acl C 210 [.d (.int .i64 op), .d (.int .i64 ty)] A = some (.d (.bool (cmpS op ty)), A) := by
 rw [kC Tryz.func210 rfl Tryz.ntmps210 Tryz.results210]
 unfold cmpS
 cases b1 : decide (ty = 3) <;> cases b2 : decide (op = 10) <;> simp only [go_sem, acondK_bool, b1, b2]
def varS (t : Option Int) : Int × Int := match t with
 | none => (0, 11)
 | some t => if (decide (t < 1) || decide (3 < t)) = true then (0, 10) else (t, 0)
def finS (op : Int) (ts : List Int) : Int × Int :=
 if (decide (10 ≤ op) && decide (op ≤ 15)) = true then (if (!decide (ts.getD 0 0 = ts.getD 1 0) || !cmpS op (ts.getD 0 0)) = true then (0, 10) else (3, 0))
 else if ts.all (fun t => decide (t = sigW op)) = true then (sigR op, 0) else (0, 10)
mutual
def ofE (lk : Bytes → Option Int) : E → Int × Int
 | .mk op n s args => if decide (op = 3) = true then varS (lk s) else ofL lk op [] args
def ofL (lk : Bytes → Option Int) (op : Int) : List Int → List E → Int × Int
 | ts, [] => finS op ts
 | ts, x :: l => if decide ((ofE lk x).2 = 0) = true then ofL lk op (ts ++ [(ofE lk x).1]) l else (0, (ofE lk x).2)
end
def iRow (n : Int) : List Dat := [.int .i64 n]
noncomputable abbrev grI (A : AHeap) (l : List Int) : AV × AHeap := agrow A 3 1 (l.map iRow)
theorem grI_append (A : AHeap) (l : List Int) (x : Int) (h : l.length ≤ 4194303) : aappend Tryz.prog 3 1 (grI A l).2 (grI A l).1 [[.int .i64 x]] = some (grI A (l ++ [x])) := by
 have := agrow_append (P := Tryz.prog) (A := A) (ty := 3) (sz := 1) (rows := l.map iRow) (src := [[.int .i64 x]]) room_3_1 (by rfl) (by simp; omega)
 rw [this]
 unfold grI
 rw [List.map_append]
 rfl
theorem growObjs {A : AHeap} {e sz : Nat} {rows : List (List Dat)} : (agrow A e sz rows).2.objs = A.objs := by
 unfold agrow
 split <;> rfl
theorem aindex_growG {A : AHeap} {e sz : Nat} {rows : List (List Dat)} {i : Nat} (h : i < rows.length) : aindex sz (agrow A e sz rows).2 (i : Nat) (agrow A e sz rows).1 = some (.eptr A.bufs.length rows.length i 0) := by
 unfold agrow
 rw [if_neg (by rintro rfl; simp at h)]
 simp [aindex, h]
theorem aload_growG {A : AHeap} {e sz n : Nat} {agg : Bool} {rows : List (List Dat)} {i : Nat} {r : List Dat} (h : rows[i]? = some r) : aload (agrow A e sz rows).2 n agg (.eptr A.bufs.length rows.length i 0) = apart (r.map .d) 0 n agg := by
 unfold agrow
 rw [if_neg (by rintro rfl; simp at h)]
 simp [aload, h]
theorem afin_growN {f : FuncId} (ho : C.own f = false) (A : AHeap) (e sz : Nat) (rows : List (List Dat)) (a b : Int) :
  afinR C f A (agrow A e sz rows).2 (some (.tuple [.d (.int .i64 a), .d (.int .i64 b)])) = some (.tuple [.d (.int .i64 a), .d (.int .i64 b)], A) := by
 simp only [afinR, Option.map_some, afinish, ho, Bool.false_eq_true, if_false]
 unfold agrow
 by_cases h1 : rows = []
 ·simp only [h1, if_true, acleanR, acleanVs, acleanV, aclean]
  rw [acut_same rfl]
 ·simp only [if_neg h1, acleanR, acleanVs, acleanV, aclean]
  unfold acut
  simp [AV.noptr, AV.noptr2, AV.noptr1]
end Go.Proofs.YtpbdjgdmhfibmaaGreatDoor
