/- What is known from outside: Pure, Reads, First. -/
import Derived.Test.YtjmghomnbmbjnaaGreatSeatJ
import Derived.Test.YtjmghomnbmbjnaaGreatGenD
import Derived.Test.YtjmghomnbmbjnaaGreatSeatA
import Derived.Test.YtjmghomnbmbjnaaGreatSeatD
set_option linter.unusedVariables false
set_option linter.unusedSimpArgs false
set_option linter.all false
set_option linter.deprecated false
set_option linter.all false
namespace Go.Proofs.YtjmghomnbmbjnaaGreat
open Go.Abs
set_option maxRecDepth 10000
def fewN (n : Nat) : Bool := decide (n ≤ 1099511627776)
def outFn (f : List AV → Option AV) : AFun := fun args A => match f (acleanVs A args).1 with
  | some x => some (x, (acleanVs A args).2)
  | none => none
def argP : List AV → Option Pr
  | [.agg [.d a, .d b, .d c]] => match rdPr [a, b, c] with
    | some p => if (okP p && (!decide (valS p = 0) || fewN (opsEs (exprsS p)).length)) = true then some p else none
    | none => none
  | _ => none
def fstP (p : Pr) : Int × Int × Bool := if valS p = 0 then fstS (opsEs (exprsS p)) 0 else (0, 0, false)
def fstF : List AV → Option AV := fun xs => (argP xs).map fun p => .tuple [.d (.int .i64 (fstP p).1), .d (.int .i64 (fstP p).2.1), .d (.bool (fstP p).2.2)]
theorem argP_inv {xs : List AV} {p : Pr} (h : argP xs = some p) : xs = [Pr.av p] ∧ p.Ok ∧ (valS p = 0 → (opsEs (exprsS p)).length ≤ 1099511627776) := by
  unfold argP at h
  split at h
  · split at h
    · rename_i a b c p' he
      split at h
      · rename_i hl
        cases h
        have h2 := rdPr_inv he
        rw [Pr.row] at h2
        simp only [List.cons.injEq, and_true] at h2
        obtain ⟨rfl, rfl, rfl⟩ := h2
        rw [Bool.and_eq_true] at hl
        exact ⟨rfl, okP_iff.1 hl.1, fun h => by simpa [fewN, h] using hl.2⟩
      · cases h
    · cases h
  · cases h
theorem argP_row {p : Pr} (hp : p.Ok) (h : valS p = 0 → (opsEs (exprsS p)).length ≤ 1099511627776) : argP [Pr.av p] = some p := by
  have := rdPr_row p
  rw [Pr.row] at this
  simp only [argP]
  rw [this]
  simp only
  rw [if_pos (by rw [Bool.and_eq_true]; exact ⟨okP_iff.2 hp, by by_cases hv : valS p = 0; (· simpa [fewN, hv] using h hv); (· simp [hv])⟩)]
theorem out_ok {P : Program} {f : FuncId} {k : List AV → Option AV} (hf : ∃ fn, P.funcs[f]? = some fn ∧ (fn.name == "runtime.NumGoroutine") = false ∧ fn.body.isNone = false)
    (h : ∀ xs x, k xs = some x → ∀ (W : World) (g : Gh) (A : AHeap) (vs : List Value), WRel W g A → RelL W g A xs vs → Calls P f vs.toArray W (CallPost W g A x A)) : CallOk1 P f (outFn k) := by
  intro xs A x A' hx
  unfold outFn at hx
  split at hx
  · rename_i y hy
    cases hx
    refine ⟨hf, fun W g vs hw hr => ?_⟩
    obtain ⟨g1, r1, w1, e1⟩ := acleanVs_rel hw hr
    refine (h _ _ hy W g1 _ vs w1 r1).mono fun e W' hp => ?_
    obtain ⟨v, g', rfl, p1, p2, p3⟩ := hp
    exact ⟨v, g', rfl, p1, p2, e1.trans p3⟩
  · cases hx
theorem relL_one {W : World} {g : Gh} {A : AHeap} {x : AV} {vs : List Value} (h : RelL W g A [x] vs) : ∃ v, vs = [v] ∧ RelV W g A x v := by
  obtain ⟨h1, h2⟩ := h
  match vs, h1 with
  | [v], _ => exact ⟨v, rfl, h2 0 x v rfl rfl⟩
  | [], h => simp at h
  | _ :: _ :: _, h => simp at h
set_option maxRecDepth 100000 in
theorem fst_ok : CallOk1 Tryz.prog 81 (outFn fstF) := by
  refine out_ok ⟨_, Tryz.func81, by kernel_rfl, rfl⟩ fun xs x hx W g A vs hw hr => ?_
  unfold fstF at hx
  rw [Option.map_eq_some_iff] at hx
  obtain ⟨p, he, rfl⟩ := hx
  obtain ⟨rfl, hp, hl⟩ := argP_inv he
  obtain ⟨v, rfl, hv⟩ := relL_one hr
  obtain ⟨c0, c1, c2, rfl⟩ : ∃ c0 c1 c2, v = .agg #[c0, c1, c2] := by
    cases hv with
    | agg cs us hl hr =>
      match us, hl with
      | [a, b, c], _ => exact ⟨a, b, c, rfl⟩
  refine callsIn_wide.1 (first_in 8 (Nat.le_refl _) g A W hw (Pr.av p) c0 c1 c2 hv (valS p) (exprsS p) hl ?_ ?_ (fstP p) rfl)
  · intro W g hw hv
    exact (acl_ok (c := C) mixed extOkC _ _ _ _ _ (validate p hp A)).2 W g [.agg #[c0, c1, c2]] hw ⟨rfl, fun i x v h1 h2 => by
      match i with
      | 0 => simp at h1 h2; subst h1; subst h2; exact hv
      | i + 1 => simp at h1⟩
  · intro _ W g hw hv
    exact (acl_ok (c := C) mixed extOkC _ _ _ _ _ (exprs p hp A)).2 W g [.agg #[c0, c1, c2]] hw ⟨rfl, fun i x v h1 h2 => by
      match i with
      | 0 => simp at h1 h2; subst h1; subst h2; exact hv
      | i + 1 => simp at h1⟩
end Go.Proofs.YtjmghomnbmbjnaaGreat
set_option linter.all false
namespace Go.Proofs.YtjmghomnbmbjnaaGreat
open Go.Abs
set_option maxRecDepth 10000
noncomputable def ext0 (f : FuncId) : Option AFun := bif Nat.beq f 81 then some (outFn fstF) else none
noncomputable def CW : ACtx := { C with ext := ext0 }
theorem ext0_ok : ∀ f h, ext0 f = some h → CallOk1 Tryz.prog f h := by
  intro f h hf
  unfold ext0 at hf
  cases h3 : Nat.beq f 81 with
  | true =>
    rw [h3] at hf
    cases hf
    have : f = 81 := Nat.eq_of_beq_eq_true h3
    subst this
    exact fst_ok
  | false => rw [h3] at hf; cases hf
set_option maxRecDepth 1000000 in
theorem works0 : acl CW 8 [] A00 = some (.d (.bool true), A00) := bcl_sound (ok := okL.contains) okOf (n := 300) (by kernel_rfl)
noncomputable def extD (f : FuncId) : Option AFun := bif Nat.beq f 8 then some (closedFn true) else ext0 f
noncomputable def D : ACtx := { C with ext := extD }
theorem extOk : ∀ f h, D.ext f = some h → CallOk1 D.P f h := by
  intro f h hf
  have key : D.ext f = bif Nat.beq f 8 then some (closedFn true) else ext0 f := rfl
  rw [key] at hf
  cases hb : Nat.beq f 8 with
  | true =>
    rw [hb] at hf
    cases hf
    have : f = 8 := Nat.eq_of_beq_eq_true hb
    subst this
    exact closed_ext (c := CW) mixed ext0_ok works0
  | false => rw [hb] at hf; exact ext0_ok f h hf
theorem mixedD : D.P.follows .mixedOrders = true := mixed
@[go_sem] theorem D_P : D.P = Tryz.prog := by rfl
@[go_sem] theorem D_live : D.live = C.live := by rfl
@[go_sem] theorem D_esc : D.esc = C.esc := by rfl
@[go_sem] theorem D_own : D.own = C.own := by rfl
theorem up {f : FuncId} {args : List AV} {A : AHeap} {r : AV × AHeap} (h : acl C f args A = some r) : acl D f args A = some r := by
  refine acl_up (c := C) (e := extD) (fun f => ?_) h
  have k1 : C.ext f = bif extL.contains f then some failFn else none := rfl
  cases hb : extL.contains f with
  | true =>
    rw [hb] at k1
    exact .inr ⟨failFn, k1, fun args A r h => by cases h⟩
  | false =>
    rw [hb] at k1
    refine .inl ⟨k1, ?_⟩
    have hn : ¬ f ∈ extL := fun hm => by
      have := List.contains_iff_mem.2 hm
      rw [hb] at this
      cases this
    simp only [extL, List.mem_cons, List.mem_nil_iff, or_false, not_or] at hn
    obtain ⟨n1, n2⟩ := hn
    unfold extD ext0
    have b : ∀ k, f ≠ k → Nat.beq f k = false := fun k hk => by
      cases h : Nat.beq f k with
      | false => rfl
      | true => exact absurd (Nat.eq_of_beq_eq_true h) hk
    rw [b _ (by assumption), b _ (by assumption)]
    rfl
theorem works (A : AHeap) : acl D 8 [] A = some (.d (.bool true), A) := by
  rw [acl_ext (c := D) (f := 8) (g := closedFn true) rfl]
  rfl
theorem firstD (p : Pr) (hp : p.Ok) (h : valS p = 0 → (opsEs (exprsS p)).length ≤ 1099511627776) (A : AHeap) : acl D 81 [Pr.av p] A = some (.tuple [.d (.int .i64 (fstP p).1), .d (.int .i64 (fstP p).2.1), .d (.bool (fstP p).2.2)], A) := by
  rw [acl_ext (c := D) (f := 81) (g := outFn fstF) rfl]
  have hr := argP_row hp h
  have hc : acleanVs A [Pr.av p] = ([Pr.av p], A) := by rfl
  unfold outFn
  rw [hc]
  simp only [fstF, hr, Option.map_some]
end Go.Proofs.YtjmghomnbmbjnaaGreat
