/- The reference: the code of statements. -/
import Derived.Test.YtjmghomnbmbjnaaSeatS
import Derived.Test.YtjmghomnbmbjnaaSeatR
set_option linter.unusedVariables false
set_option linter.unusedSimpArgs false
set_option linter.all false
set_option linter.deprecated false
set_option linter.all false
namespace Go.Proofs.Ytjmghomnbmbjnaa
open Go.Abs
attribute [local congr] ite_congr
set_option maxRecDepth 10000
def simpR (S : List Bytes) (op : Int) (name : Bytes) (max : Int) (a b : E) : List In :=
  one 14 0 :: (if decide (op = 8) = true then [one 11 max] else codeR S a ++ (if decide (op = 3) = true then codeR S b ++ [one 8 0] else if decide (op = 4) = true then [one 9 0] else if decide (op = 7) = true then [one 10 0] else [one 4 (slotN S name)]))
mutual
def rfS (S : List Bytes) : Stm → Nat → List In
  | .mk op name max a b body els => fun k =>
    if decide (op = 5) = true then one 14 0 :: (codeR S a ++ brM (fun j => rfL S body j) (fun j => rfL S els j) (decide ((els.length : Int) = 0)) (k + 1 + (codeR S a).length))
    else if decide (op = 6) = true then one 14 0 :: (codeR S a ++ lpM (fun j => rfL S body j) (codeR S b) (slotN S name) max (k + 1 + (codeR S a).length))
    else simpR S op name max a b
def rfL (S : List Bytes) : List Stm → Nat → List In
  | [] => fun _ => []
  | x :: l => fun k => rfS S x k ++ rfL S l (k + (rfS S x k).length)
end
theorem rfS_mk (S : List Bytes) (op : Int) (name : Bytes) (max : Int) (a b : E) (body els : List Stm) (k : Nat) : rfS S (.mk op name max a b body els) k =
    if decide (op = 5) = true then one 14 0 :: (codeR S a ++ brM (fun j => rfL S body j) (fun j => rfL S els j) (decide ((els.length : Int) = 0)) (k + 1 + (codeR S a).length))
    else if decide (op = 6) = true then one 14 0 :: (codeR S a ++ lpM (fun j => rfL S body j) (codeR S b) (slotN S name) max (k + 1 + (codeR S a).length))
    else simpR S op name max a b := by rw [rfS]
theorem rfL_cons (S : List Bytes) (x : Stm) (l : List Stm) (k : Nat) : rfL S (x :: l) k = rfS S x k ++ rfL S l (k + (rfS S x k).length) := by rw [rfL]
theorem simpR_len (S : List Bytes) (op : Int) (name : Bytes) (max : Int) (a b : E) : (simpR S op name max a b).length ≤ 4 + (visE a false).length + (visE b false).length := by
  have h1 := codeR_len S a false
  have h2 := codeR_len S b false
  unfold simpR
  rw [List.length_cons]
  by_cases c8 : decide (op = 8) = true
  · rw [if_pos c8, List.length_cons, List.length_nil]; omega
  rw [if_neg c8, List.length_append]
  by_cases c3 : decide (op = 3) = true
  · rw [if_pos c3, List.length_append, List.length_cons, List.length_nil]; omega
  rw [if_neg c3]
  by_cases c4 : decide (op = 4) = true
  · rw [if_pos c4, List.length_cons, List.length_nil]; omega
  rw [if_neg c4]
  by_cases c7 : decide (op = 7) = true
  · rw [if_pos c7, List.length_cons, List.length_nil]; omega
  rw [if_neg c7, List.length_cons, List.length_nil]; omega
mutual
theorem rfS_len (S : List Bytes) : ∀ (x : Stm) (k : Nat), (rfS S x k).length ≤ lnS x
  | .mk op name max a b body els, k => by
    have h1 := codeR_len S a false
    have h2 := codeR_len S b false
    have h3 := rfL_len S body
    have h4 := rfL_len S els
    have hbr : ∀ j, (brM (fun j => rfL S body j) (fun j => rfL S els j) (decide ((els.length : Int) = 0)) j).length ≤ 4 + lnL body + lnL els := by
      intro j
      have i1 := h3 (j + 1)
      have i2 := h4 (j + 2 + (rfL S body (j + 1)).length)
      have i3 : _ ≤ 2 + (rfL S body (j + 1)).length + (rfL S els (j + 2 + (rfL S body (j + 1)).length)).length := brM_len (fun j => rfL S body j) (fun j => rfL S els j) (decide ((els.length : Int) = 0)) j
      omega
    have hlp : ∀ j, (lpM (fun j => rfL S body j) (codeR S b) (slotN S name) max j).length ≤ 13 + (codeR S b).length + lnL body := by
      intro j
      have i1 := h3 (j + (codeR S b).length + 8)
      have i3 : _ = 13 + (codeR S b).length + (rfL S body (j + (codeR S b).length + 8)).length := lpM_len (fun j => rfL S body j) (codeR S b) (slotN S name) max j
      omega
    have i5 := hbr (k + 1 + (codeR S a).length)
    have i6 := hlp (k + 1 + (codeR S a).length)
    have i7 := simpR_len S op name max a b
    rw [rfS_mk, lnS]
    generalize brM (fun j => rfL S body j) (fun j => rfL S els j) (decide ((els.length : Int) = 0)) (k + 1 + (codeR S a).length) = P at *
    generalize lpM (fun j => rfL S body j) (codeR S b) (slotN S name) max (k + 1 + (codeR S a).length) = Q at *
    clear h3 h4 hbr hlp
    by_cases c5 : decide (op = 5) = true
    · rw [if_pos c5, List.length_cons, List.length_append]; omega
    rw [if_neg c5]
    by_cases c6 : decide (op = 6) = true
    · rw [if_pos c6, List.length_cons, List.length_append]; omega
    rw [if_neg c6]
    omega
theorem rfL_len (S : List Bytes) : ∀ (l : List Stm) (k : Nat), (rfL S l k).length ≤ lnL l
  | [], k => by simp [rfL]
  | x :: l, k => by
    have h1 := rfS_len S x k
    have h2 := rfL_len S l (k + (rfS S x k).length)
    rw [rfL_cons, lnL, List.length_append]
    omega
end
theorem rfL_snoc (S : List Bytes) : ∀ (l : List Stm) (x : Stm) (k : Nat), rfL S (l ++ [x]) k = rfL S l k ++ rfS S x (k + (rfL S l k).length)
  | [], x, k => by simp [rfL]
  | y :: l, x, k => by
    rw [List.cons_append, rfL_cons, rfL_cons, rfL_snoc S l x]
    simp only [List.append_assoc, List.length_append]
    rw [Nat.add_assoc]
theorem codeR_ne (S : List Bytes) (e : E) : codeR S e ≠ [] := by
  obtain ⟨op, n, s, args⟩ := e
  rw [codeR]
  split
  · simp
  · split
    · simp
    · split <;> simp
theorem full_append (A : AHeap) (l m : List In) (hm : m ≠ []) (h : l.length + m.length ≤ 4194303) : aappend Try.prog 52 5 A (.full (l.map In.row)) (m.map In.row) = some (grJ A (l ++ m)) := by
  have r : aroomT Try.prog 52 5 = true := room_52_5
  have hs : m.map In.row ≠ [] := by simpa using hm
  unfold aappend
  rw [if_pos ⟨r, in_all m⟩]
  simp only
  rw [if_neg hs, if_pos ⟨by simp; omega, in_all l⟩]
  unfold grJ agrow
  rw [if_neg (by simp [hm])]
  simp
theorem add_nat {a b : Nat} (h : a + b ≤ 1000000000) : IntKind.i64.wrap ((a : Int) + (b : Int)) = ((a + b : Nat) : Int) := by
  rw [wrap_in] <;> omega
theorem add_lit {a : Nat} (b : Nat) (h : a + b ≤ 1000000000) : IntKind.i64.wrap ((a : Int) + (OfNat.ofNat b : Int)) = ((a + b : Nat) : Int) := by
  have : (OfNat.ofNat b : Int) = (b : Int) := rfl
  rw [this]
  exact add_nat h
/-! a list of instructions that grows, with others behind it -/
def ib (l : List In) : ABuf := ⟨52, 5, l.map In.row, 0⟩
def bt (l : List In) : List ABuf := if l = [] then [] else [ib l]
def hX (A : AHeap) (O : List In) (T : List ABuf) : AHeap := ⟨A.objs, A.bufs ++ (ib O :: T)⟩
def vv (A : AHeap) (T : List ABuf) (B : List In) : AV := if B = [] then .nilS else .own (A.bufs.length + 1 + T.length) B.length
theorem grJ_hX (A : AHeap) {O : List In} (h : O ≠ []) : grJ A O = (.own A.bufs.length O.length, hX A O []) := by
  unfold grJ agrow hX ib
  rw [if_neg (by simpa using h)]
  simp
theorem hX_new (A : AHeap) (O : List In) (T : List ABuf) (B : List In) : grJ (hX A O T) B = (vv A T B, hX A O (T ++ bt B)) := by
  unfold grJ agrow hX vv bt ib
  by_cases h : B = []
  · subst h; simp
  · rw [if_neg (by simpa using h), if_neg h, if_neg h]
    simp
    omega
theorem hX_append (A : AHeap) {O : List In} (h : O ≠ []) (T : List ABuf) (m : List In) (hl : O.length + m.length ≤ 4194303) :
    aappend Try.prog 52 5 (hX A O T) (grJ A O).1 (m.map In.row) = some ((grJ A (O ++ m)).1, hX A (O ++ m) T) := by
  have r : aroomT Try.prog 52 5 = true := room_52_5
  rw [grJ_hX A h, grJ_hX A (O := O ++ m) (by simp [h])]
  unfold aappend
  rw [if_pos ⟨r, in_all m⟩]
  have g : (hX A O T).bufs[A.bufs.length]? = some (ib O) := by simp [hX]
  simp only [g]
  rw [if_pos (by refine ⟨?_, rfl, rfl, ?_⟩ <;> simp [ib]; omega)]
  simp [hX, ib]
theorem vv_len (A X : AHeap) (T : List ABuf) (B : List In) : alen X 2 (vv A T B) = some B.length := by
  unfold vv
  split
  · rename_i h; subst h; rfl
  · rfl
theorem vv_rows (A : AHeap) (O : List In) (T T' : List ABuf) (B : List In) : arows (hX A O (T ++ bt B ++ T')) (vv A T B) = some (B.map In.row) := by
  unfold vv hX bt
  by_cases h : B = []
  · subst h; simp [arows]
  · rw [if_neg h, if_neg h]
    have g : (A.bufs ++ (ib O :: (T ++ [ib B] ++ T')))[A.bufs.length + 1 + T.length]? = some (ib B) := by
      rw [List.getElem?_append_right (by omega), show A.bufs.length + 1 + T.length - A.bufs.length = T.length + 1 by omega, List.getElem?_cons_succ, List.append_assoc, List.getElem?_append_right (Nat.le_refl _)]
      simp
    simp only [arows, g]
    simp [ib]
theorem vv_rows1 (A : AHeap) (O : List In) (B : List In) : arows (hX A O (bt B)) (vv A [] B) = some (B.map In.row) := by
  have := vv_rows A O [] [] B
  simpa using this
theorem vv_rows2 (A : AHeap) (O : List In) (B L : List In) : arows (hX A O (bt B ++ bt L)) (vv A [] B) = some (B.map In.row) := by
  have := vv_rows A O [] (bt L) B
  simpa using this
theorem vv_rows3 (A : AHeap) (O : List In) (B L : List In) : arows (hX A O (bt B ++ bt L)) (vv A (bt B) L) = some (L.map In.row) := by
  have := vv_rows A O (bt B) [] L
  simpa using this
theorem hX_fin {f : FuncId} (ho : C.own f = false) (A : AHeap) {O : List In} (h : O ≠ []) (T : List ABuf) : afinR C f A (hX A O T) (some (grJ A O).1) = some (.d (.slice (O.map In.row)), A) := by
  rw [grJ_hX A h]
  simp only [afinR, Option.map_some, afinish, ho, Bool.false_eq_true, if_false, acleanR, acleanV, aclean, arows]
  have g : (hX A O T).bufs[A.bufs.length]? = some (ib O) := by simp [hX]
  simp only [g]
  simp only [ib, List.length_map, if_true]
  unfold acut
  simp [hX, AHeap.freeze, AV.noptr, AV.noptr2, AV.noptr1]
  rw [List.take_modify_front]
end Go.Proofs.Ytjmghomnbmbjnaa
set_option linter.all false
namespace Go.Proofs.Ytjmghomnbmbjnaa
open Go.Abs
attribute [local congr] ite_congr
set_option maxRecDepth 10000
theorem gj_afin {f : FuncId} (ho : C.own f = true) (A : AHeap) (l m : List In) : afinR C f (grJ A l).2 (grJ A (l ++ m)).2 (some (grJ A (l ++ m)).1) = some (grJ A (l ++ m)) :=
  afin_grow ho (by cases l <;> simp)
theorem add_one {a : Nat} (h : a + 1 ≤ 1000000000) : IntKind.i64.wrap ((a : Int) + 1) = ((a + 1 : Nat) : Int) := by rw [wrap_in] <;> omega
theorem add_two {a : Nat} (h : a + 2 ≤ 1000000000) : IntKind.i64.wrap ((a : Int) + 2) = ((a + 2 : Nat) : Int) := by rw [wrap_in] <;> omega
theorem add_five {a : Nat} (h : a + 5 ≤ 1000000000) : IntKind.i64.wrap ((a : Int) + 5) = ((a + 5 : Nat) : Int) := by rw [wrap_in] <;> omega
end Go.Proofs.Ytjmghomnbmbjnaa
