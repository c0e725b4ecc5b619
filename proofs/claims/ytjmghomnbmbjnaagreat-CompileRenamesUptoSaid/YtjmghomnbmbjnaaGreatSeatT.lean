/- The reference: the code of statements. -/
import Derived.Test.YtjmghomnbmbjnaaGreatSeatS
import Derived.Test.YtjmghomnbmbjnaaGreatSeatR
set_option linter.unusedVariables false
set_option linter.unusedSimpArgs false
set_option linter.all false
set_option linter.deprecated false
set_option linter.all false
namespace Go.Proofs.YtjmghomnbmbjnaaGreat
open Go.Abs
attribute [local congr] ite_congr
set_option maxRecDepth 10000
def simpR (S : List Bytes) (op : Int) (name : Bytes) (max : Int) (a b : E) : List In :=
  one 14 0 :: (if decide (op = 8) = true then [one 11 max] else codeR S a ++ (if decide (op = 3) = true then codeR S b ++ [one 8 0] else if decide (op = 4) = true then [one 9 0] else if decide (op = 7) = true then [one 10 0] else [one 4 (slotN S name)]))
mutual
def rfS (S : List Bytes) : Stm → Nat → List In
  | .mk op name max a b body els => fun k =>
    if decide (op = 5) = true then one 14 0 :: (codeR S a ++ brM (fun j => rfL S body j) (fun j => rfL S els j) (decide ((els.length : Int) = 0)) (k + 1 + (codeR S a).length))
    else if decide (op = 6) = true then one 14 0 :: (codeR S a ++ lpM (fun j => rfL S body j) (codeR S b) (slotN S name) max (k + 1 + (codeR S a).length))
    else simpR S op name max a b
def rfL (S : List Bytes) : List Stm → Nat → List In
  | [] => fun _ => []
  | x :: l => fun k => rfS S x k ++ rfL S l (k + (rfS S x k).length)
end
theorem rfS_mk (S : List Bytes) (op : Int) (name : Bytes) (max : Int) (a b : E) (body els : List Stm) (k : Nat) : rfS S (.mk op name max a b body els) k =
    if decide (op = 5) = true then one 14 0 :: (codeR S a ++ brM (fun j => rfL S body j) (fun j => rfL S els j) (decide ((els.length : Int) = 0)) (k + 1 + (codeR S a).length))
    else if decide (op = 6) = true then one 14 0 :: (codeR S a ++ lpM (fun j => rfL S body j) (codeR S b) (slotN S name) max (k + 1 + (codeR S a).length))
    else simpR S op name max a b := by rw [rfS]
theorem rfL_cons (S : List Bytes) (x : Stm) (l : List Stm) (k : Nat) : rfL S (x :: l) k = rfS S x k ++ rfL S l (k + (rfS S x k).length) := by rw [rfL]
theorem simpR_len (S : List Bytes) (op : Int) (name : Bytes) (max : Int) (a b : E) : (simpR S op name max a b).length ≤ 4 + (visE a false).length + (visE b false).length := by
  have h1 := codeR_len S a false
  have h2 := codeR_len S b false
  unfold simpR
  rw [List.length_cons]
  by_cases c8 : decide (op = 8) = true
  · rw [if_pos c8, List.length_cons, List.length_nil]; omega
  rw [if_neg c8, List.length_append]
  by_cases c3 : decide (op = 3) = true
  · rw [if_pos c3, List.length_append, List.length_cons, List.length_nil]; omega
  rw [if_neg c3]
  by_cases c4 : decide (op = 4) = true
  · rw [if_pos c4, List.length_cons, List.length_nil]; omega
  rw [if_neg c4]
  by_cases c7 : decide (op = 7) = true
  · rw [if_pos c7, List.length_cons, List.length_nil]; omega
  rw [if_neg c7, List.length_cons, List.length_nil]; omega
mutual
theorem rfS_len (S : List Bytes) : ∀ (x : Stm) (k : Nat), (rfS S x k).length ≤ lnS x
  | .mk op name max a b body els, k => by
    have h1 := codeR_len S a false
    have h2 := codeR_len S b false
    have h3 := rfL_len S body
    have h4 := rfL_len S els
    have hbr : ∀ j, (brM (fun j => rfL S body j) (fun j => rfL S els j) (decide ((els.length : Int) = 0)) j).length ≤ 4 + lnL body + lnL els := by
      intro j
      have i1 := h3 (j + 1)
      have i2 := h4 (j + 2 + (rfL S body (j + 1)).length)
      have i3 : _ ≤ 2 + (rfL S body (j + 1)).length + (rfL S els (j + 2 + (rfL S body (j + 1)).length)).length := brM_len (fun j => rfL S body j) (fun j => rfL S els j) (decide ((els.length : Int) = 0)) j
      omega
    have hlp : ∀ j, (lpM (fun j => rfL S body j) (codeR S b) (slotN S name) max j).length ≤ 13 + (codeR S b).length + lnL body := by
      intro j
      have i1 := h3 (j + (codeR S b).length + 8)
      have i3 : _ = 13 + (codeR S b).length + (rfL S body (j + (codeR S b).length + 8)).length := lpM_len (fun j => rfL S body j) (codeR S b) (slotN S name) max j
      omega
    have i5 := hbr (k + 1 + (codeR S a).length)
    have i6 := hlp (k + 1 + (codeR S a).length)
    have i7 := simpR_len S op name max a b
    rw [rfS_mk, lnS]
    generalize brM (fun j => rfL S body j) (fun j => rfL S els j) (decide ((els.length : Int) = 0)) (k + 1 + (codeR S a).length) = P at *
    generalize lpM (fun j => rfL S body j) (codeR S b) (slotN S name) max (k + 1 + (codeR S a).length) = Q at *
    clear h3 h4 hbr hlp
    by_cases c5 : decide (op = 5) = true
    · rw [if_pos c5, List.length_cons, List.length_append]; omega
    rw [if_neg c5]
    by_cases c6 : decide (op = 6) = true
    · rw [if_pos c6, List.length_cons, List.length_append]; omega
    rw [if_neg c6]
    omega
theorem rfL_len (S : List Bytes) : ∀ (l : List Stm) (k : Nat), (rfL S l k).length ≤ lnL l
  | [], k => by simp [rfL]
  | x :: l, k => by
    have h1 := rfS_len S x k
    have h2 := rfL_len S l (k + (rfS S x k).length)
    rw [rfL_cons, lnL, List.length_append]
    omega
end
def ib (l : List In) : ABuf := ⟨46, 5, l.map In.row, 0⟩
def hX (A : AHeap) (O : List In) (T : List ABuf) : AHeap := ⟨A.objs, A.bufs ++ (ib O :: T)⟩
def vv (A : AHeap) (T : List ABuf) (B : List In) : AV := if B = [] then .nilS else .own (A.bufs.length + 1 + T.length) B.length
end Go.Proofs.YtjmghomnbmbjnaaGreat
set_option linter.all false
namespace Go.Proofs.YtjmghomnbmbjnaaGreat
open Go.Abs
attribute [local congr] ite_congr
set_option maxRecDepth 10000
end Go.Proofs.YtjmghomnbmbjnaaGreat
