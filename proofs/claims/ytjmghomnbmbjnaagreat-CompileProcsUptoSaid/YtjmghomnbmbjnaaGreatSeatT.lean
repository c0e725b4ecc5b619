/- The reference: the code of statements. -/
import Derived.Test.YtjmghomnbmbjnaaGreatSeatS
import Derived.Test.YtjmghomnbmbjnaaGreatSeatR
set_option linter.unusedVariables false
set_option linter.unusedSimpArgs false
set_option linter.all false
set_option linter.deprecated false
set_option linter.all false
namespace Go.Proofs.YtjmghomnbmbjnaaGreat
open Go.Abs
attribute [local congr] ite_congr
set_option maxRecDepth 10000
def simpR (S : List Bytes) (op : Int) (name : Bytes) (max : Int) (a b : E) : List In :=
  one 14 0 :: (if decide (op = 8) = true then [one 11 max] else codeR S a ++ (if decide (op = 3) = true then codeR S b ++ [one 8 0] else if decide (op = 4) = true then [one 9 0] else if decide (op = 7) = true then [one 10 0] else [one 4 (slotN S name)]))
mutual
def rfS (S : List Bytes) : Stm → Nat → List In
  | .mk op name max a b body els => fun k =>
    if decide (op = 5) = true then one 14 0 :: (codeR S a ++ brM (fun j => rfL S body j) (fun j => rfL S els j) (decide ((els.length : Int) = 0)) (k + 1 + (codeR S a).length))
    else if decide (op = 6) = true then one 14 0 :: (codeR S a ++ lpM (fun j => rfL S body j) (codeR S b) (slotN S name) max (k + 1 + (codeR S a).length))
    else simpR S op name max a b
def rfL (S : List Bytes) : List Stm → Nat → List In
  | [] => fun _ => []
  | x :: l => fun k => rfS S x k ++ rfL S l (k + (rfS S x k).length)
end
theorem rfS_mk (S : List Bytes) (op : Int) (name : Bytes) (max : Int) (a b : E) (body els : List Stm) (k : Nat) : rfS S (.mk op name max a b body els) k =
    if decide (op = 5) = true then one 14 0 :: (codeR S a ++ brM (fun j => rfL S body j) (fun j => rfL S els j) (decide ((els.length : Int) = 0)) (k + 1 + (codeR S a).length))
    else if decide (op = 6) = true then one 14 0 :: (codeR S a ++ lpM (fun j => rfL S body j) (codeR S b) (slotN S name) max (k + 1 + (codeR S a).length))
    else simpR S op name max a b := by rw [rfS]
theorem rfL_cons (S : List Bytes) (x : Stm) (l : List Stm) (k : Nat) : rfL S (x :: l) k = rfS S x k ++ rfL S l (k + (rfS S x k).length) := by rw [rfL]
theorem simpR_len (S : List Bytes) (op : Int) (name : Bytes) (max : Int) (a b : E) : (simpR S op name max a b).length ≤ 4 + (visE a false).length + (visE b false).length := by
  have h1 := codeR_len S a false
  have h2 := codeR_len S b false
  unfold simpR
  rw [List.length_cons]
  by_cases c8 : decide (op = 8) = true
  · rw [if_pos c8, List.length_cons, List.length_nil]; omega
  rw [if_neg c8, List.length_append]
  by_cases c3 : decide (op = 3) = true
  · rw [if_pos c3, List.length_append, List.length_cons, List.length_nil]; omega
  rw [if_neg c3]
  by_cases c4 : decide (op = 4) = true
  · rw [if_pos c4, List.length_cons, List.length_nil]; omega
  rw [if_neg c4]
  by_cases c7 : decide (op = 7) = true
  · rw [if_pos c7, List.length_cons, List.length_nil]; omega
  rw [if_neg c7, List.length_cons, List.length_nil]; omega
mutual
theorem rfS_len (S : List Bytes) : ∀ (x : Stm) (k : Nat), (rfS S x k).length ≤ lnS x
  | .mk op name max a b body els, k => by
    have h1 := codeR_len S a false
    have h2 := codeR_len S b false
    have h3 := rfL_len S body
    have h4 := rfL_len S els
    have hbr : ∀ j, (brM (fun j => rfL S body j) (fun j => rfL S els j) (decide ((els.length : Int) = 0)) j).length ≤ 4 + lnL body + lnL els := by
      intro j
      have i1 := h3 (j + 1)
      have i2 := h4 (j + 2 + (rfL S body (j + 1)).length)
      have i3 : _ ≤ 2 + (rfL S body (j + 1)).length + (rfL S els (j + 2 + (rfL S body (j + 1)).length)).length := brM_len (fun j => rfL S body j) (fun j => rfL S els j) (decide ((els.length : Int) = 0)) j
      omega
    have hlp : ∀ j, (lpM (fun j => rfL S body j) (codeR S b) (slotN S name) max j).length ≤ 13 + (codeR S b).length + lnL body := by
      intro j
      have i1 := h3 (j + (codeR S b).length + 8)
      have i3 : _ = 13 + (codeR S b).length + (rfL S body (j + (codeR S b).length + 8)).length := lpM_len (fun j => rfL S body j) (codeR S b) (slotN S name) max j
      omega
    have i5 := hbr (k + 1 + (codeR S a).length)
    have i6 := hlp (k + 1 + (codeR S a).length)
    have i7 := simpR_len S op name max a b
    rw [rfS_mk, lnS]
    generalize brM (fun j => rfL S body j) (fun j => rfL S els j) (decide ((els.length : Int) = 0)) (k + 1 + (codeR S a).length) = P at *
    generalize lpM (fun j => rfL S body j) (codeR S b) (slotN S name) max (k + 1 + (codeR S a).length) = Q at *
    clear h3 h4 hbr hlp
    by_cases c5 : decide (op = 5) = true
    · rw [if_pos c5, List.length_cons, List.length_append]; omega
    rw [if_neg c5]
    by_cases c6 : decide (op = 6) = true
    · rw [if_pos c6, List.length_cons, List.length_append]; omega
    rw [if_neg c6]
    omega
theorem rfL_len (S : List Bytes) : ∀ (l : List Stm) (k : Nat), (rfL S l k).length ≤ lnL l
  | [], k => by simp [rfL]
  | x :: l, k => by
    have h1 := rfS_len S x k
    have h2 := rfL_len S l (k + (rfS S x k).length)
    rw [rfL_cons, lnL, List.length_append]
    omega
end
theorem rfL_snoc (S : List Bytes) : ∀ (l : List Stm) (x : Stm) (k : Nat), rfL S (l ++ [x]) k = rfL S l k ++ rfS S x (k + (rfL S l k).length)
  | [], x, k => by simp [rfL]
  | y :: l, x, k => by
    rw [List.cons_append, rfL_cons, rfL_cons, rfL_snoc S l x]
    simp only [List.append_assoc, List.length_append]
    rw [Nat.add_assoc]
theorem codeR_ne (S : List Bytes) (e : E) : codeR S e ≠ [] := by
  obtain ⟨op, n, s, args⟩ := e
  rw [codeR]
  split
  · simp
  · split
    · simp
    · split <;> simp
theorem full_append (A : AHeap) (l m : List In) (hm : m ≠ []) (h : l.length + m.length ≤ 4194303) : aappend Tryz.prog 46 5 A (.full (l.map In.row)) (m.map In.row) = some (grJ A (l ++ m)) := by
  have r : aroomT Tryz.prog 46 5 = true := room_46_5
  have hs : m.map In.row ≠ [] := by simpa using hm
  unfold aappend
  rw [if_pos ⟨r, in_all m⟩]
  simp only
  rw [if_neg hs, if_pos ⟨by simp; omega, in_all l⟩]
  unfold grJ agrow
  rw [if_neg (by simp [hm])]
  simp
theorem oneR (op a : Int) (A : AHeap) : acl C 33 [.d (.int .i64 op), .d (.int .i64 a)] A = some (.agg [.d (.int .i64 op), .d (.int .i64 a), .d (.int .i64 0), .d (.int .i64 0), .d (.str [])], A) := by
  rw [k_call (c := C) (f := 33) rfl Tryz.func33 rfl (ok 33 (by kernel_rfl)) rfl Tryz.ntmps33 Tryz.results33 (by simp)]
  simp (maxSteps := 1000000) only [go_sem, acondK_bool, acB_merge, Nat.reduceLT, Nat.reduceLeDiff, Nat.reduceEqDiff, Nat.reduceAdd, Nat.reduceSub, Nat.reduceMul, Nat.reduceBEq, Nat.reduceBNe, Nat.reduceBneDiff, Nat.reduceBeqDiff, Int.reduceToNat, Int.reduceLE, Int.reduceLT, Int.reduceEq, Int.reduceNe, Int.reduceNeg, Int.reduceAdd, Int.reduceSub, ↓reduceIte, reduceCtorEq]
theorem add_nat {a b : Nat} (h : a + b ≤ 1000000000) : IntKind.i64.wrap ((a : Int) + (b : Int)) = ((a + b : Nat) : Int) := by
  rw [wrap_in] <;> omega
def CdBody (S : List Bytes) (l : List Stm) : Prop := ∀ (A : AHeap) (k : Nat), k + lnL l ≤ 4000000 → acl C 32 [.d (.slice (l.map Stm.row)), .d (.slice (S.map sRow)), .d (.int .i64 (k : Nat))] A = some (grJ A (rfL S l k))
def ib (l : List In) : ABuf := ⟨46, 5, l.map In.row, 0⟩
def bt (l : List In) : List ABuf := if l = [] then [] else [ib l]
def hX (A : AHeap) (O : List In) (T : List ABuf) : AHeap := ⟨A.objs, A.bufs ++ (ib O :: T)⟩
def vv (A : AHeap) (T : List ABuf) (B : List In) : AV := if B = [] then .nilS else .own (A.bufs.length + 1 + T.length) B.length
theorem grJ_hX (A : AHeap) {O : List In} (h : O ≠ []) : grJ A O = (.own A.bufs.length O.length, hX A O []) := by
  unfold grJ agrow hX ib
  rw [if_neg (by simpa using h)]
  simp
theorem hX_new (A : AHeap) (O : List In) (T : List ABuf) (B : List In) : grJ (hX A O T) B = (vv A T B, hX A O (T ++ bt B)) := by
  unfold grJ agrow hX vv bt ib
  by_cases h : B = []
  · subst h; simp
  · rw [if_neg (by simpa using h), if_neg h, if_neg h]
    simp
    omega
theorem hX_append (A : AHeap) {O : List In} (h : O ≠ []) (T : List ABuf) (m : List In) (hl : O.length + m.length ≤ 4194303) :
    aappend Tryz.prog 46 5 (hX A O T) (grJ A O).1 (m.map In.row) = some ((grJ A (O ++ m)).1, hX A (O ++ m) T) := by
  have r : aroomT Tryz.prog 46 5 = true := room_46_5
  rw [grJ_hX A h, grJ_hX A (O := O ++ m) (by simp [h])]
  unfold aappend
  rw [if_pos ⟨r, in_all m⟩]
  have g : (hX A O T).bufs[A.bufs.length]? = some (ib O) := by simp [hX]
  simp only [g]
  rw [if_pos (by refine ⟨?_, rfl, rfl, ?_⟩ <;> simp [ib]; omega)]
  simp [hX, ib]
theorem vv_len (A X : AHeap) (T : List ABuf) (B : List In) : alen X 2 (vv A T B) = some B.length := by
  unfold vv
  split
  · rename_i h; subst h; rfl
  · rfl
theorem vv_rows (A : AHeap) (O : List In) (T T' : List ABuf) (B : List In) : arows (hX A O (T ++ bt B ++ T')) (vv A T B) = some (B.map In.row) := by
  unfold vv hX bt
  by_cases h : B = []
  · subst h; simp [arows]
  · rw [if_neg h, if_neg h]
    have g : (A.bufs ++ (ib O :: (T ++ [ib B] ++ T')))[A.bufs.length + 1 + T.length]? = some (ib B) := by
      rw [List.getElem?_append_right (by omega), show A.bufs.length + 1 + T.length - A.bufs.length = T.length + 1 by omega, List.getElem?_cons_succ, List.append_assoc, List.getElem?_append_right (Nat.le_refl _)]
      simp
    simp only [arows, g]
    simp [ib]
theorem vv_rows1 (A : AHeap) (O : List In) (B : List In) : arows (hX A O (bt B)) (vv A [] B) = some (B.map In.row) := by
  have := vv_rows A O [] [] B
  simpa using this
theorem vv_rows2 (A : AHeap) (O : List In) (B L : List In) : arows (hX A O (bt B ++ bt L)) (vv A [] B) = some (B.map In.row) := by
  have := vv_rows A O [] (bt L) B
  simpa using this
theorem vv_rows3 (A : AHeap) (O : List In) (B L : List In) : arows (hX A O (bt B ++ bt L)) (vv A (bt B) L) = some (L.map In.row) := by
  have := vv_rows A O (bt B) [] L
  simpa using this
theorem hX_fin {f : FuncId} (ho : C.own f = false) (A : AHeap) {O : List In} (h : O ≠ []) (T : List ABuf) : afinR C f A (hX A O T) (some (grJ A O).1) = some (.d (.slice (O.map In.row)), A) := by
  rw [grJ_hX A h]
  simp only [afinR, Option.map_some, afinish, ho, Bool.false_eq_true, if_false, acleanR, acleanV, aclean, arows]
  have g : (hX A O T).bufs[A.bufs.length]? = some (ib O) := by simp [hX]
  simp only [g]
  simp only [ib, List.length_map, if_true]
  unfold acut
  simp [hX, AHeap.freeze, AV.noptr, AV.noptr2, AV.noptr1]
  rw [List.take_modify_front]
end Go.Proofs.YtjmghomnbmbjnaaGreat
set_option linter.all false
namespace Go.Proofs.YtjmghomnbmbjnaaGreat
open Go.Abs
attribute [local congr] ite_congr
set_option maxRecDepth 10000
theorem gj_afin {f : FuncId} (ho : C.own f = true) (A : AHeap) (l m : List In) : afinR C f (grJ A l).2 (grJ A (l ++ m)).2 (some (grJ A (l ++ m)).1) = some (grJ A (l ++ m)) :=
  afin_grow ho (by cases l <;> simp)
theorem add_one {a : Nat} (h : a + 1 ≤ 1000000000) : IntKind.i64.wrap ((a : Int) + 1) = ((a + 1 : Nat) : Int) := by rw [wrap_in] <;> omega
theorem add_two {a : Nat} (h : a + 2 ≤ 1000000000) : IntKind.i64.wrap ((a : Int) + 2) = ((a + 2 : Nat) : Int) := by rw [wrap_in] <;> omega
theorem add_five {a : Nat} (h : a + 5 ≤ 1000000000) : IntKind.i64.wrap ((a : Int) + 5) = ((a + 5 : Nat) : Int) := by rw [wrap_in] <;> omega
set_option maxHeartbeats 4000000 in
theorem branchR17 (S : List Bytes) (hS : S.length ≤ 4194303) (op : Int) (name : Bytes) (max : Int) (a b : E) (oa : a.Ok) (body els : List Stm) (hb : CdBody S body) (he : CdBody S els) (A : AHeap) (k : Nat)
    (hk : k + 14 + (visE a false).length + lnL body + lnL els ≤ 4000000) :
    acl C 56 [Stm.av (.mk op name max a b body els), .d (.slice (S.map sRow)), .d (.int .i64 (k : Nat))] A =
      some (.d (.slice ((one 14 0 :: (codeR S a ++ brM (fun j => rfL S body j) (fun j => rfL S els j) (decide ((els.length : Int) = 0)) (k + 1 + (codeR S a).length))).map In.row)), A) := by
  have ca := codeR_len S a false
  have x1 := fun B => codeRP S hS a oa (by omega) B
  have a1 := fun B => full_append B [one 14 0] (codeR S a) (codeR_ne S a) (by simp; omega)
  change ∀ B, aappend _ _ _ B (.full [[.int .i64 14, .int .i64 0, .int .i64 0, .int .i64 0, .str []]]) _ = _ at a1
  have l1 : ([one 14 0] ++ codeR S a).length = 1 + (codeR S a).length := by simp; omega
  have hcons : ∀ l : List In, one 14 0 :: (codeR S a ++ l) = ([one 14 0] ++ codeR S a) ++ l := by intro l; simp
  rw [hcons]
  rw [Nat.add_assoc k 1, ← l1]
  generalize hn : ([one 14 0] ++ codeR S a).length = n at *
  have hn' := hn
  have ne1 : [one 14 0] ++ codeR S a ≠ [] := by simp
  generalize [one 14 0] ++ codeR S a = O1 at *
  have c1 := rfL_len S body (k + n + 1)
  have c2 := rfL_len S els (k + n + 2 + (rfL S body (k + n + 1)).length)
  have y1 := hb (hX A O1 []) (k + n + 1) (by omega)
  rw [hX_new, List.nil_append] at y1
  have y2 := he (hX A O1 (bt (rfL S body (k + n + 1)))) (k + n + 2 + (rfL S body (k + n + 1)).length) (by omega)
  rw [hX_new] at y2
  have gA : (grJ A O1).2 = hX A O1 [] := by rw [grJ_hX A ne1]
  unfold brM
  dsimp only
  generalize rfL S body (k + n + 1) = B at *
  generalize rfL S els (k + n + 2 + B.length) = L at *
  have w1 : IntKind.i64.wrap ((k : Int) + ((O1.length : Nat) : Int)) = ((k + n : Nat) : Int) := by rw [hn, add_nat (by omega)]
  have w2 : IntKind.i64.wrap (((k + n : Nat) : Int) + 1) = ((k + n + 1 : Nat) : Int) := add_one (by omega)
  have w3 : IntKind.i64.wrap (((k + n + 1 : Nat) : Int) + ((B.length : Nat) : Int)) = ((k + n + 1 + B.length : Nat) : Int) := add_nat (by omega)
  have al := fun B0 => alen_grJ (A := A) (B := B0) (l := O1)
  have fo : ∀ (l : List In) (T : List ABuf), O1 ++ l ≠ [] → afinR C 56 A (hX A (O1 ++ l) T) (some (grJ A (O1 ++ l)).1) = some (.d (.slice ((O1 ++ l).map In.row)), A) := fun l T h => hX_fin rfl A h T
  have bl := fun X => vv_len A X [] B
  have ll := fun X => vv_len A X (bt B) L
  cases h5 : decide ((els.length : Int) = 0) with
  | true =>
    rw [if_pos rfl]
    have a2 := hX_append A ne1 (bt B) [one 7 ((k + n + 1 + B.length : Nat) : Int)] (by simp; omega)
    change aappend _ _ _ _ _ [[.int .i64 7, .int .i64 ((k + n + 1 + B.length : Nat) : Int), .int .i64 0, .int .i64 0, .str []]] = _ at a2
    have a3 := hX_append A (O := O1 ++ [one 7 ((k + n + 1 + B.length : Nat) : Int)]) (by simp) (bt B) B (by simp; omega)
    rw [List.append_assoc, List.singleton_append] at a3
    have r1 := vv_rows1 A (O1 ++ [one 7 ((k + n + 1 + B.length : Nat) : Int)]) B
    have f1 := fo (one 7 ((k + n + 1 + B.length : Nat) : Int) :: B) (bt B) (by simp)
    generalize O1 ++ one 7 ((k + n + 1 + B.length : Nat) : Int) :: B = O3 at *
    generalize O1 ++ [one 7 ((k + n + 1 + B.length : Nat) : Int)] = O2 at *
    generalize k + n + 1 + B.length = m3 at *
    rw [k_call (c := C) (f := 56) rfl Tryz.func56 rfl (ok 56 (by kernel_rfl)) rfl Tryz.ntmps56 Tryz.results56 (by simp)]
    simp (maxSteps := 1000000) only [go_sem, acondK_bool, acB_merge, Nat.reduceLT, Nat.reduceLeDiff, Nat.reduceEqDiff, Nat.reduceAdd, Nat.reduceSub, Nat.reduceMul, Nat.reduceBEq, Nat.reduceBNe, Nat.reduceBneDiff, Nat.reduceBeqDiff, Int.reduceToNat, Int.reduceLE, Int.reduceLT, Int.reduceEq, Int.reduceNe, Int.reduceNeg, Int.reduceAdd, Int.reduceSub, ↓reduceIte, reduceCtorEq, x1, a1, gA, al, w1, w2, y1, bl, w3, h5, oneR, a2, r1, a3, f1]
  | false =>
    rw [if_neg (by decide)]
    have w4 : IntKind.i64.wrap (((k + n + 1 + B.length : Nat) : Int) + 1) = ((k + n + 2 + B.length : Nat) : Int) := by rw [add_one (by omega)]; congr 1; omega
    have w5 : IntKind.i64.wrap (((k + n + 2 + B.length : Nat) : Int) + ((L.length : Nat) : Int)) = ((k + n + 2 + B.length + L.length : Nat) : Int) := add_nat (by omega)
    have a2 := hX_append A ne1 (bt B ++ bt L) [one 7 ((k + n + 2 + B.length : Nat) : Int)] (by simp; omega)
    change aappend _ _ _ _ _ [[.int .i64 7, .int .i64 ((k + n + 2 + B.length : Nat) : Int), .int .i64 0, .int .i64 0, .str []]] = _ at a2
    have a3 := hX_append A (O := O1 ++ [one 7 ((k + n + 2 + B.length : Nat) : Int)]) (by simp) (bt B ++ bt L) B (by simp; omega)
    have r1 := vv_rows2 A (O1 ++ [one 7 ((k + n + 2 + B.length : Nat) : Int)]) B L
    have a4 := hX_append A (O := O1 ++ [one 7 ((k + n + 2 + B.length : Nat) : Int)] ++ B) (by simp) (bt B ++ bt L) [one 6 ((k + n + 2 + B.length + L.length : Nat) : Int)] (by simp; omega)
    change aappend _ _ _ _ _ [[.int .i64 6, .int .i64 ((k + n + 2 + B.length + L.length : Nat) : Int), .int .i64 0, .int .i64 0, .str []]] = _ at a4
    have a5 := hX_append A (O := O1 ++ [one 7 ((k + n + 2 + B.length : Nat) : Int)] ++ B ++ [one 6 ((k + n + 2 + B.length + L.length : Nat) : Int)]) (by simp) (bt B ++ bt L) L (by simp; omega)
    have r2 := vv_rows3 A (O1 ++ [one 7 ((k + n + 2 + B.length : Nat) : Int)] ++ B ++ [one 6 ((k + n + 2 + B.length + L.length : Nat) : Int)]) B L
    have hend : O1 ++ one 7 ((k + n + 2 + B.length : Nat) : Int) :: (B ++ one 6 ((k + n + 2 + B.length + L.length : Nat) : Int) :: L) = O1 ++ [one 7 ((k + n + 2 + B.length : Nat) : Int)] ++ B ++ [one 6 ((k + n + 2 + B.length + L.length : Nat) : Int)] ++ L := by simp
    rw [hend]
    have f1 := fo (one 7 ((k + n + 2 + B.length : Nat) : Int) :: (B ++ one 6 ((k + n + 2 + B.length + L.length : Nat) : Int) :: L)) (bt B ++ bt L) (by simp)
    rw [hend] at f1
    generalize O1 ++ [one 7 ((k + n + 2 + B.length : Nat) : Int)] ++ B ++ [one 6 ((k + n + 2 + B.length + L.length : Nat) : Int)] ++ L = O5 at *
    generalize O1 ++ [one 7 ((k + n + 2 + B.length : Nat) : Int)] ++ B ++ [one 6 ((k + n + 2 + B.length + L.length : Nat) : Int)] = O4 at *
    generalize O1 ++ [one 7 ((k + n + 2 + B.length : Nat) : Int)] ++ B = O3 at *
    generalize O1 ++ [one 7 ((k + n + 2 + B.length : Nat) : Int)] = O2 at *
    clear hcons fo hend ca c1 c2 hk hb he hn'
    generalize k + n + 2 + B.length + L.length = m5 at *
    generalize k + n + 2 + B.length = m4 at *
    generalize k + n + 1 + B.length = m3 at *
    rw [k_call (c := C) (f := 56) rfl Tryz.func56 rfl (ok 56 (by kernel_rfl)) rfl Tryz.ntmps56 Tryz.results56 (by simp)]
    simp (maxSteps := 1000000) only [go_sem, acondK_bool, acB_merge, Nat.reduceLT, Nat.reduceLeDiff, Nat.reduceEqDiff, Nat.reduceAdd, Nat.reduceSub, Nat.reduceMul, Nat.reduceBEq, Nat.reduceBNe, Nat.reduceBneDiff, Nat.reduceBeqDiff, Int.reduceToNat, Int.reduceLE, Int.reduceLT, Int.reduceEq, Int.reduceNe, Int.reduceNeg, Int.reduceAdd, Int.reduceSub, ↓reduceIte, reduceCtorEq, x1, a1, gA, al, w1, w2, y1, bl, w3, h5, w4, y2, ll, w5, oneR, a2, r1, a3, a4, r2, a5, f1]
set_option maxHeartbeats 4000000 in
theorem loopR17 (S : List Bytes) (hS : S.length ≤ 4194303) (op : Int) (name : Bytes) (max : Int) (a b : E) (oa : a.Ok) (ob : b.Ok) (body els : List Stm) (hb : CdBody S body) (A : AHeap) (k : Nat)
    (hk : k + 14 + (visE a false).length + (visE b false).length + lnL body ≤ 4000000) :
    acl C 57 [Stm.av (.mk op name max a b body els), .d (.slice (S.map sRow)), .d (.int .i64 (k : Nat))] A =
      some (.d (.slice ((one 14 0 :: (codeR S a ++ lpM (fun j => rfL S body j) (codeR S b) (slotN S name) max (k + 1 + (codeR S a).length))).map In.row)), A) := by
  have ca := codeR_len S a false
  have cb := codeR_len S b false
  have x1 := fun B => codeRP S hS a oa (by omega) B
  have x2 := fun B => codeRP S hS b ob (by omega) B
  have i1 := fun B => slotR S hS name B
  have i2 := idxF_bound (fun s => name == s) S 0
  change -1 ≤ slotN S name ∧ slotN S name ≤ _ at i2
  change ∀ B, acl C _ _ _ = some (AV.d (Dat.int .i64 (slotN S name)), _) at i1
  generalize slotN S name = i at *
  have w1 : IntKind.i64.wrap (i + 1) = i + 1 := wrap_in (by omega) (by omega)
  have a1 := fun B => full_append B [one 14 0] (codeR S a) (codeR_ne S a) (by simp; omega)
  change ∀ B, aappend _ _ _ B (.full [[.int .i64 14, .int .i64 0, .int .i64 0, .int .i64 0, .str []]]) _ = _ at a1
  have l1 : ([one 14 0] ++ codeR S a).length = 1 + (codeR S a).length := by simp; omega
  have hcons : ∀ l : List In, one 14 0 :: (codeR S a ++ l) = ([one 14 0] ++ codeR S a) ++ l := by intro l; simp
  rw [hcons]
  rw [Nat.add_assoc k 1, ← l1]
  generalize hn : ([one 14 0] ++ codeR S a).length = n at *
  generalize [one 14 0] ++ codeR S a = O1 at *
  have c1 := rfL_len S body (k + n + (codeR S b).length + 8)
  have y1 := fun B => hb B (k + n + (codeR S b).length + 8) (by omega)
  unfold lpM
  dsimp only
  generalize rfL S body (k + n + (codeR S b).length + 8) = B at *
  generalize codeR S b = cbl at *
  have a2 := grJ_append A O1 (one 4 i) (by omega)
  change aappend _ _ _ _ _ [[.int .i64 4, .int .i64 i, .int .i64 0, .int .i64 0, .str []]] = _ at a2
  obtain ⟨O2, h2⟩ : ∃ J, J = O1 ++ [one 4 i] := ⟨_, rfl⟩
  have l2 : O2.length = n + 1 := by rw [h2]; simp [hn]
  rw [← h2] at a2
  have a3 := grJ_appendL A O2 cbl (by omega)
  obtain ⟨O3, h3⟩ : ∃ J, J = O2 ++ cbl := ⟨_, rfl⟩
  have l3 : O3.length = O2.length + cbl.length := by rw [h3]; simp
  rw [← h3] at a3
  have a4 := grJ_append A O3 (one 4 (i + 1)) (by omega)
  change aappend _ _ _ _ _ [[.int .i64 4, .int .i64 (i + 1), .int .i64 0, .int .i64 0, .str []]] = _ at a4
  obtain ⟨O4, h4⟩ : ∃ J, J = O3 ++ [one 4 (i + 1)] := ⟨_, rfl⟩
  have l4 : O4.length = O3.length + 1 := by rw [h4]; simp
  rw [← h4] at a4
  have a5 := grJ_append A O4 ⟨12, i, i + 1, max, []⟩ (by omega)
  change aappend _ _ _ _ _ [[.int .i64 12, .int .i64 i, .int .i64 (i + 1), .int .i64 max, .str []]] = _ at a5
  obtain ⟨O5, h5⟩ : ∃ J, J = O4 ++ [⟨12, i, i + 1, max, []⟩] := ⟨_, rfl⟩
  have l5 : O5.length = O4.length + 1 := by rw [h5]; simp
  rw [← h5] at a5
  have a6 := grJ_appendL A O5 (lpTest i) (by simp [lpTest]; omega)
  change aappend _ _ _ _ _ [[.int .i64 3, .int .i64 i, .int .i64 0, .int .i64 0, .str []], [.int .i64 3, .int .i64 (i + 1), .int .i64 0, .int .i64 0, .str []], [.int .i64 5, .int .i64 12, .int .i64 0, .int .i64 0, .str []]] = _ at a6
  obtain ⟨O6, h6⟩ : ∃ J, J = O5 ++ lpTest i := ⟨_, rfl⟩
  have l6 : O6.length = O5.length + 3 := by rw [h6]; simp [lpTest]
  rw [← h6] at a6
  have n6 : O6 ≠ [] := by intro h; rw [h] at l6; simp at l6
  have gA : (grJ A O6).2 = hX A O6 [] := by rw [grJ_hX A n6]
  have y2 := y1 (hX A O6 [])
  rw [hX_new, List.nil_append] at y2
  have bl := fun X => vv_len A X [] B
  have v1 : IntKind.i64.wrap ((k : Int) + ((O5.length : Nat) : Int)) = ((k + n + cbl.length + 3 : Nat) : Int) := by rw [add_nat (by omega)]; congr 1; omega
  have v2 : IntKind.i64.wrap ((k : Int) + ((O6.length : Nat) : Int)) = ((k + n + cbl.length + 6 : Nat) : Int) := by rw [add_nat (by omega)]; congr 1; omega
  have v3 : IntKind.i64.wrap (((k + n + cbl.length + 6 : Nat) : Int) + 2) = ((k + n + cbl.length + 8 : Nat) : Int) := add_two (by omega)
  have v4 : IntKind.i64.wrap (((k + n + cbl.length + 8 : Nat) : Int) + ((B.length : Nat) : Int)) = ((k + n + cbl.length + 8 + B.length : Nat) : Int) := add_nat (by omega)
  have v5 : IntKind.i64.wrap (((k + n + cbl.length + 8 + B.length : Nat) : Int) + 5) = ((k + n + cbl.length + 13 + B.length : Nat) : Int) := by rw [add_five (by omega)]; congr 1; omega
  have a7 := hX_append A n6 (bt B) [one 7 ((k + n + cbl.length + 13 + B.length : Nat) : Int), one 14 0] (by simp; omega)
  change aappend _ _ _ _ _ [[.int .i64 7, .int .i64 ((k + n + cbl.length + 13 + B.length : Nat) : Int), .int .i64 0, .int .i64 0, .str []], [.int .i64 14, .int .i64 0, .int .i64 0, .int .i64 0, .str []]] = _ at a7
  obtain ⟨O7, h7⟩ : ∃ J, J = O6 ++ [one 7 ((k + n + cbl.length + 13 + B.length : Nat) : Int), one 14 0] := ⟨_, rfl⟩
  have l7 : O7.length = O6.length + 2 := by rw [h7]; simp
  rw [← h7] at a7
  have n7 : O7 ≠ [] := by intro h; rw [h] at l7; simp at l7
  have a8 := hX_append A n7 (bt B) B (by omega)
  have r1 := vv_rows1 A O7 B
  obtain ⟨O8, h8⟩ : ∃ J, J = O7 ++ B := ⟨_, rfl⟩
  have l8 : O8.length = O7.length + B.length := by rw [h8]; simp
  rw [← h8] at a8
  have n8 : O8 ≠ [] := by intro h; rw [h] at l8; simp at l8; omega
  have a9 := hX_append A n8 (bt B) (lpNext i ((k + n + cbl.length + 3 : Nat) : Int)) (by simp [lpNext]; omega)
  change aappend _ _ _ _ _ [[.int .i64 3, .int .i64 i, .int .i64 0, .int .i64 0, .str []], [.int .i64 1, .int .i64 0, .int .i64 0, .int .i64 1, .str []], [.int .i64 5, .int .i64 4, .int .i64 0, .int .i64 0, .str []],
    [.int .i64 4, .int .i64 i, .int .i64 0, .int .i64 0, .str []], [.int .i64 6, .int .i64 ((k + n + cbl.length + 3 : Nat) : Int), .int .i64 0, .int .i64 0, .str []]] = _ at a9
  have hend : O1 ++ (lpHead i max cbl ++ (lpTest i ++ (one 7 ((k + n + cbl.length + 13 + B.length : Nat) : Int) :: one 14 0 :: (B ++ lpNext i ((k + n + cbl.length + 3 : Nat) : Int))))) = O8 ++ lpNext i ((k + n + cbl.length + 3 : Nat) : Int) := by
    rw [h8, h7, h6, h5, h4, h3, h2]
    simp [lpHead]
  rw [hend]
  have f1 := hX_fin (f := 57) rfl A (O := O8 ++ lpNext i ((k + n + cbl.length + 3 : Nat) : Int)) (by simp [n8]) (bt B)
  have al5 := fun B0 => alen_grJ (A := A) (B := B0) (l := O5)
  have al6 := fun B0 => alen_grJ (A := A) (B := B0) (l := O6)
  generalize O8 ++ lpNext i ((k + n + cbl.length + 3 : Nat) : Int) = O9 at *
  clear y1
  clear h2 h3 h4 h5 h6 h7 h8 l2 l3 l4 l5 l6 l7 l8 hcons hend ca cb c1 hk hb hn i2 l1
  generalize k + n + cbl.length + 13 + B.length = m13 at *
  generalize k + n + cbl.length + 8 + B.length = m8 at *
  generalize k + n + cbl.length + 8 = m7 at *
  generalize k + n + cbl.length + 6 = m6 at *
  generalize k + n + cbl.length + 3 = m3 at *
  rw [k_call (c := C) (f := 57) rfl Tryz.func57 rfl (ok 57 (by kernel_rfl)) rfl Tryz.ntmps57 Tryz.results57 (by simp)]
  simp (maxSteps := 1000000) only [go_sem, acondK_bool, acB_merge, Nat.reduceLT, Nat.reduceLeDiff, Nat.reduceEqDiff, Nat.reduceAdd, Nat.reduceSub, Nat.reduceMul, Nat.reduceBEq, Nat.reduceBNe, Nat.reduceBneDiff, Nat.reduceBeqDiff, Int.reduceToNat, Int.reduceLE, Int.reduceLT, Int.reduceEq, Int.reduceNe, Int.reduceNeg, Int.reduceAdd, Int.reduceSub, ↓reduceIte, reduceCtorEq, i1, x1, a1, oneR, a2, x2, a3, w1, a4, a5]
  simp (maxSteps := 1000000) only [go_sem, acondK_bool, acB_merge, Nat.reduceLT, Nat.reduceLeDiff, Nat.reduceEqDiff, Nat.reduceAdd, Nat.reduceSub, Nat.reduceMul, Nat.reduceBEq, Nat.reduceBNe, Nat.reduceBneDiff, Nat.reduceBeqDiff, Int.reduceToNat, Int.reduceLE, Int.reduceLT, Int.reduceEq, Int.reduceNe, Int.reduceNeg, Int.reduceAdd, Int.reduceSub, ↓reduceIte, reduceCtorEq, oneR, al5, v1, w1, a6, gA, al6, v2, v3, y2, bl, v4, v5, a7, r1, a8, a9, f1]
set_option maxHeartbeats 4000000 in
theorem simpleR17 (S : List Bytes) (hS : S.length ≤ 4194303) (op : Int) (name : Bytes) (max : Int) (a b : E) (oa : a.Ok) (ob : b.Ok) (body els : List Stm) (A : AHeap)
    (hk : 14 + (visE a false).length + (visE b false).length ≤ 4000000) :
    acl C 58 [Stm.av (.mk op name max a b body els), .d (.slice (S.map sRow))] A = some (.d (.slice ((simpR S op name max a b).map In.row)), A) := by
  have ca := codeR_len S a false
  have cb := codeR_len S b false
  have x1 := fun B => codeRP S hS a oa (by omega) B
  have x2 := fun B => codeRP S hS b ob (by omega) B
  have i1 := fun B => slotR S hS name B
  change ∀ B, acl C _ _ _ = some (AV.d (Dat.int .i64 (slotN S name)), _) at i1
  have a1 := fun B => full_append B [one 14 0] (codeR S a) (codeR_ne S a) (by simp; omega)
  change ∀ B, aappend _ _ _ B (.full [[.int .i64 14, .int .i64 0, .int .i64 0, .int .i64 0, .str []]]) _ = _ at a1
  have fo : ∀ l : List In, afinR C 58 A (grJ A l).2 (some (grJ A l).1) = some (.d (.slice (l.map In.row)), A) := fun l => afin_grown rfl
  unfold simpR
  cases d8 : decide (op = 8) with
  | true =>
    rw [if_pos rfl]
    have a2 := fun B => full_append B [one 14 0] [one 11 max] (by simp) (by simp)
    change ∀ B, aappend _ _ _ B (.full [[.int .i64 14, .int .i64 0, .int .i64 0, .int .i64 0, .str []]]) [[.int .i64 11, .int .i64 max, .int .i64 0, .int .i64 0, .str []]] = _ at a2
    have f1 := fo (one 14 0 :: [one 11 max])
    rw [List.singleton_append] at a2
    generalize one 14 0 :: [one 11 max] = O2 at *
    rw [k_call (c := C) (f := 58) rfl Tryz.func58 rfl (ok 58 (by kernel_rfl)) rfl Tryz.ntmps58 Tryz.results58 (by simp)]
    simp (maxSteps := 1000000) only [go_sem, acondK_bool, acB_merge, Nat.reduceLT, Nat.reduceLeDiff, Nat.reduceEqDiff, Nat.reduceAdd, Nat.reduceSub, Nat.reduceMul, Nat.reduceBEq, Nat.reduceBNe, Nat.reduceBneDiff, Nat.reduceBeqDiff, Int.reduceToNat, Int.reduceLE, Int.reduceLT, Int.reduceEq, Int.reduceNe, Int.reduceNeg, Int.reduceAdd, Int.reduceSub, ↓reduceIte, reduceCtorEq, d8, oneR, a2, f1]
  | false =>
  rw [if_neg (by decide)]
  have hcons : ∀ l : List In, one 14 0 :: (codeR S a ++ l) = ([one 14 0] ++ codeR S a) ++ l := by intro l; simp
  rw [hcons]
  have l1 : ([one 14 0] ++ codeR S a).length = 1 + (codeR S a).length := by simp; omega
  generalize [one 14 0] ++ codeR S a = O1 at *
  cases d3 : decide (op = 3) with
  | true =>
    rw [if_pos rfl]
    have a2 := grJ_appendL A O1 (codeR S b) (by omega)
    have a3 := grJ_append A (O1 ++ codeR S b) (one 8 0) (by simp; omega)
    change aappend _ _ _ _ _ [[.int .i64 8, .int .i64 0, .int .i64 0, .int .i64 0, .str []]] = _ at a3
    rw [← List.append_assoc]
    have f1 := fo (O1 ++ codeR S b ++ [one 8 0])
    generalize O1 ++ codeR S b ++ [one 8 0] = O3 at *
    generalize O1 ++ codeR S b = O2 at *
    rw [k_call (c := C) (f := 58) rfl Tryz.func58 rfl (ok 58 (by kernel_rfl)) rfl Tryz.ntmps58 Tryz.results58 (by simp)]
    simp (maxSteps := 1000000) only [go_sem, acondK_bool, acB_merge, Nat.reduceLT, Nat.reduceLeDiff, Nat.reduceEqDiff, Nat.reduceAdd, Nat.reduceSub, Nat.reduceMul, Nat.reduceBEq, Nat.reduceBNe, Nat.reduceBneDiff, Nat.reduceBeqDiff, Int.reduceToNat, Int.reduceLE, Int.reduceLT, Int.reduceEq, Int.reduceNe, Int.reduceNeg, Int.reduceAdd, Int.reduceSub, ↓reduceIte, reduceCtorEq, d8, x1, a1, d3, x2, a2, oneR, a3, f1]
  | false =>
  rw [if_neg (by decide)]
  cases d4 : decide (op = 4) with
  | true =>
    rw [if_pos rfl]
    have a3 := grJ_append A O1 (one 9 0) (by omega)
    change aappend _ _ _ _ _ [[.int .i64 9, .int .i64 0, .int .i64 0, .int .i64 0, .str []]] = _ at a3
    have f1 := fo (O1 ++ [one 9 0])
    generalize O1 ++ [one 9 0] = O3 at *
    rw [k_call (c := C) (f := 58) rfl Tryz.func58 rfl (ok 58 (by kernel_rfl)) rfl Tryz.ntmps58 Tryz.results58 (by simp)]
    simp (maxSteps := 1000000) only [go_sem, acondK_bool, acB_merge, Nat.reduceLT, Nat.reduceLeDiff, Nat.reduceEqDiff, Nat.reduceAdd, Nat.reduceSub, Nat.reduceMul, Nat.reduceBEq, Nat.reduceBNe, Nat.reduceBneDiff, Nat.reduceBeqDiff, Int.reduceToNat, Int.reduceLE, Int.reduceLT, Int.reduceEq, Int.reduceNe, Int.reduceNeg, Int.reduceAdd, Int.reduceSub, ↓reduceIte, reduceCtorEq, d8, x1, a1, d3, d4, oneR, a3, f1]
  | false =>
  rw [if_neg (by decide)]
  cases d7 : decide (op = 7) with
  | true =>
    rw [if_pos rfl]
    have a3 := grJ_append A O1 (one 10 0) (by omega)
    change aappend _ _ _ _ _ [[.int .i64 10, .int .i64 0, .int .i64 0, .int .i64 0, .str []]] = _ at a3
    have f1 := fo (O1 ++ [one 10 0])
    generalize O1 ++ [one 10 0] = O3 at *
    rw [k_call (c := C) (f := 58) rfl Tryz.func58 rfl (ok 58 (by kernel_rfl)) rfl Tryz.ntmps58 Tryz.results58 (by simp)]
    simp (maxSteps := 1000000) only [go_sem, acondK_bool, acB_merge, Nat.reduceLT, Nat.reduceLeDiff, Nat.reduceEqDiff, Nat.reduceAdd, Nat.reduceSub, Nat.reduceMul, Nat.reduceBEq, Nat.reduceBNe, Nat.reduceBneDiff, Nat.reduceBeqDiff, Int.reduceToNat, Int.reduceLE, Int.reduceLT, Int.reduceEq, Int.reduceNe, Int.reduceNeg, Int.reduceAdd, Int.reduceSub, ↓reduceIte, reduceCtorEq, d8, x1, a1, d3, d4, d7, oneR, a3, f1]
  | false =>
    rw [if_neg (by decide)]
    have a3 := grJ_append A O1 (one 4 (slotN S name)) (by omega)
    change aappend _ _ _ _ _ [[.int .i64 4, .int .i64 (slotN S name), .int .i64 0, .int .i64 0, .str []]] = _ at a3
    have f1 := fo (O1 ++ [one 4 (slotN S name)])
    generalize O1 ++ [one 4 (slotN S name)] = O3 at *
    generalize slotN S name = i at *
    rw [k_call (c := C) (f := 58) rfl Tryz.func58 rfl (ok 58 (by kernel_rfl)) rfl Tryz.ntmps58 Tryz.results58 (by simp)]
    simp (maxSteps := 1000000) only [go_sem, acondK_bool, acB_merge, Nat.reduceLT, Nat.reduceLeDiff, Nat.reduceEqDiff, Nat.reduceAdd, Nat.reduceSub, Nat.reduceMul, Nat.reduceBEq, Nat.reduceBNe, Nat.reduceBneDiff, Nat.reduceBeqDiff, Int.reduceToNat, Int.reduceLE, Int.reduceLT, Int.reduceEq, Int.reduceNe, Int.reduceNeg, Int.reduceAdd, Int.reduceSub, ↓reduceIte, reduceCtorEq, d8, x1, a1, d3, d4, d7, i1, oneR, a3, f1]
set_option maxHeartbeats 4000000 in
theorem bodyR17_of (S : List Bytes) (hS : S.length ≤ 4194303) (l : List Stm) (hlen : l.length ≤ 4194303) (hok : ∀ x ∈ l, x.Ok) (ih : ∀ x ∈ l, CdBody S x.body ∧ CdBody S x.els) : CdBody S l := by
  intro A k hk
  rw [k_call_own (c := C) (f := 32) rfl Tryz.func32 rfl (ok 32 (by kernel_rfl)) rfl Tryz.ntmps32 Tryz.results32 (by simp)]
  simp (maxSteps := 1000000) only [go_sem, acondK_bool, acB_merge, Nat.reduceLT, Nat.reduceLeDiff, Nat.reduceEqDiff, Nat.reduceAdd, Nat.reduceSub, Nat.reduceMul, Nat.reduceBEq, Nat.reduceBNe, Nat.reduceBneDiff, Nat.reduceBeqDiff, Int.reduceToNat, Int.reduceLE, Int.reduceLT, Int.reduceEq, Int.reduceNe, Int.reduceNeg, Int.reduceAdd, Int.reduceSub, ↓reduceIte, reduceCtorEq]
  refine loop_any (fun pre => [(7, .v (grJ A (rfL S pre k)).1), (8, .v (.d (.int .i64 (pre.length : Nat)))), (2, .v (.d (.int .i64 (k : Nat)))), (1, .v (.d (.slice (S.map sRow)))), (0, .v (.d (.slice (l.map Stm.row))))])
    (fun pre => (grJ A (rfL S pre k)).2) (fun _ _ => some (grJ A (rfL S l k))) l (by rw [rfL]; rfl) (by rw [rfL]; rfl) rfl ?_
  intro pre suf hl ih2
  have hb : pre.length < 9223372036854775807 := by rw [hl] at hlen; simp at hlen; omega
  cases suf with
  | nil =>
    rw [List.append_nil] at hl
    subst hl
    have e4 : decide ((l.length : Int) < (l.length : Int)) = false := by simp
    have fo : afinR C 32 A (grJ A (rfL S l k)).2 (some (grJ A (rfL S l k)).1) = some (grJ A (rfL S l k)) := gj_afin rfl A [] (rfL S l k)
    simp (maxSteps := 1000000) only [go_sem, acondK_bool, acB_merge, Nat.reduceLT, Nat.reduceLeDiff, Nat.reduceEqDiff, Nat.reduceAdd, Nat.reduceSub, Nat.reduceMul, Nat.reduceBEq, Nat.reduceBNe, Nat.reduceBneDiff, Nat.reduceBeqDiff, Int.reduceToNat, Int.reduceLE, Int.reduceLT, Int.reduceEq, Int.reduceNe, Int.reduceNeg, Int.reduceAdd, Int.reduceSub, ↓reduceIte, reduceCtorEq, e4, fo]
  | cons x suf =>
    have hx : x ∈ l := by rw [hl]; simp
    have cl := rfL_len S pre k
    have cx := rfS_len S x (k + (rfL S pre k).length)
    have hn : lnL pre + (lnS x + lnL suf) = lnL l := by rw [hl, lnL_append, lnL]
    have e2 := ih2 x suf rfl
    rw [List.length_append, List.length_cons, List.length_nil, rfL_snoc] at e2
    have e3 : (l.map Stm.row)[pre.length]? = some (Stm.row x) := by rw [hl]; exact map_mid
    have e4 : decide ((pre.length : Int) < (l.length : Int)) = true := by rw [hl]; simp; omega
    have a1 := grJ_appendL A (rfL S pre k) (rfS S x (k + (rfL S pre k).length)) (by omega)
    have w1 : IntKind.i64.wrap ((k : Int) + (((rfL S pre k).length : Nat) : Int)) = ((k + (rfL S pre k).length : Nat) : Int) := add_nat (by omega)
    have al := fun B0 => alen_grJ (A := A) (B := B0) (l := rfL S pre k)
    obtain ⟨ihb, ihe⟩ := ih x hx
    have oa := Stm.Ok.a (hok x hx)
    have ob := Stm.Ok.b (hok x hx)
    obtain ⟨op, name, max, a, b, body, els⟩ := x
    simp only [Stm.a, Stm.b, Stm.body, Stm.els] at oa ob ihb ihe
    rw [lnS] at hn
    have y1 := fun B => branchR17 S hS op name max a b oa body els ihb ihe B (k + (rfL S pre k).length) (by omega)
    have y2 := fun B => loopR17 S hS op name max a b oa ob body els ihb B (k + (rfL S pre k).length) (by omega)
    have y3 := fun B => simpleR17 S hS op name max a b oa ob body els B (by omega)
    rw [rfS_mk] at e2 a1
    rw [Stm.row_eq] at e3
    generalize rfL S pre k = J at *
    cases d5 : decide (op = 5) with
    | true =>
      rw [d5, if_pos rfl] at e2 a1
      generalize one 14 0 :: (codeR S a ++ brM (fun j => rfL S body j) (fun j => rfL S els j) (decide ((els.length : Int) = 0)) (k + J.length + 1 + (codeR S a).length)) = K at *
      generalize J ++ K = J2 at *
      generalize k + J.length = m at *
      simp (maxSteps := 1000000) only [go_sem, acondK_bool, acB_merge, Nat.reduceLT, Nat.reduceLeDiff, Nat.reduceEqDiff, Nat.reduceAdd, Nat.reduceSub, Nat.reduceMul, Nat.reduceBEq, Nat.reduceBNe, Nat.reduceBneDiff, Nat.reduceBeqDiff, Int.reduceToNat, Int.reduceLE, Int.reduceLT, Int.reduceEq, Int.reduceNe, Int.reduceNeg, Int.reduceAdd, Int.reduceSub, ↓reduceIte, reduceCtorEq, e3, e4, d5, al, w1, y1, a1, e2, wrap_nat hb]
    | false =>
    rw [d5, if_neg (by decide)] at e2 a1
    cases d6 : decide (op = 6) with
    | true =>
      rw [d6, if_pos rfl] at e2 a1
      generalize one 14 0 :: (codeR S a ++ lpM (fun j => rfL S body j) (codeR S b) (slotN S name) max (k + J.length + 1 + (codeR S a).length)) = K at *
      generalize J ++ K = J2 at *
      generalize k + J.length = m at *
      simp (maxSteps := 1000000) only [go_sem, acondK_bool, acB_merge, Nat.reduceLT, Nat.reduceLeDiff, Nat.reduceEqDiff, Nat.reduceAdd, Nat.reduceSub, Nat.reduceMul, Nat.reduceBEq, Nat.reduceBNe, Nat.reduceBneDiff, Nat.reduceBeqDiff, Int.reduceToNat, Int.reduceLE, Int.reduceLT, Int.reduceEq, Int.reduceNe, Int.reduceNeg, Int.reduceAdd, Int.reduceSub, ↓reduceIte, reduceCtorEq, e3, e4, d5, d6, al, w1, y2, a1, e2, wrap_nat hb]
    | false =>
      rw [d6, if_neg (by decide)] at e2 a1
      generalize simpR S op name max a b = K at *
      generalize J ++ K = J2 at *
      simp (maxSteps := 1000000) only [go_sem, acondK_bool, acB_merge, Nat.reduceLT, Nat.reduceLeDiff, Nat.reduceEqDiff, Nat.reduceAdd, Nat.reduceSub, Nat.reduceMul, Nat.reduceBEq, Nat.reduceBNe, Nat.reduceBneDiff, Nat.reduceBeqDiff, Int.reduceToNat, Int.reduceLE, Int.reduceLT, Int.reduceEq, Int.reduceNe, Int.reduceNeg, Int.reduceAdd, Int.reduceSub, ↓reduceIte, reduceCtorEq, e3, e4, d5, d6, y3, a1, e2, wrap_nat hb]
theorem bodyR17_in (S : List Bytes) (hS : S.length ≤ 4194303) : ∀ x : Stm, x.Ok → CdBody S x.body ∧ CdBody S x.els := by
  intro x
  induction x using Stm.ind with
  | h op name max a b body els ihb ihe =>
    intro hok
    obtain ⟨f1, f2⟩ := stmFit2 hok
    exact ⟨bodyR17_of S hS body f1 (Stm.Ok.bodyOk hok) fun y hy => ihb y hy (Stm.Ok.bodyOk hok y hy), bodyR17_of S hS els f2 (Stm.Ok.elsOk hok) fun y hy => ihe y hy (Stm.Ok.elsOk hok y hy)⟩
theorem bodyR17 (S : List Bytes) (hS : S.length ≤ 4194303) (l : List Stm) (hlen : l.length ≤ 4194303) (hok : ∀ x ∈ l, x.Ok) : CdBody S l :=
  bodyR17_of S hS l hlen hok fun x hx => bodyR17_in S hS x (hok x hx)
end Go.Proofs.YtjmghomnbmbjnaaGreat
