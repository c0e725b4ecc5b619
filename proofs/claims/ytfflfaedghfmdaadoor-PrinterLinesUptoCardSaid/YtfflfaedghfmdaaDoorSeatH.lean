/- The text of an expression: what it is, and how long. -/
import Derived.Test.YtfflfaedghfmdaaDoorSeatG
import Derived.Test.YtfflfaedghfmdaaDoorSeatE
import Derived.Test.YtfflfaedghfmdaaDoorSeatA
import Derived.Test.YtfflfaedghfmdaaDoorGenD
set_option linter.unusedVariables false
set_option linter.unusedSimpArgs false
set_option linter.all false
set_option linter.deprecated false
set_option linter.all false
namespace Go.Proofs.YtfflfaedghfmdaaDoor
open Go.Abs
set_option maxRecDepth 100000
/-- in parentheses, where the level asks for it -/
def par (op : Int) (t : Bytes) (k : Int) : Bytes := if lvl op < k then 40 :: (t ++ [41]) else t
/-- the text of an operator, from the operators and the texts of its operands -/
def bodyT (op n : Int) (s : Bytes) (ts : List (Int × Bytes)) : Bytes :=
  if op = 1 then Lib.itoa n else if op = 2 then quoteS s else if op = 3 then s else
  match ts with
  | [] => wrd op ++ [40, 41]
  | [(o, t)] => if op = 18 then [110, 111, 116, 32] ++ par o t 3 else if op = 9 then [45] ++ par o t 8 else (wrd op ++ [40]) ++ t ++ [41]
  | (o1, t1) :: (o2, t2) :: _ => if lvl op = 4 then par o1 t1 5 ++ [32] ++ sgn op ++ [32] ++ par o2 t2 5 else par o1 t1 (lvl op) ++ [32] ++ sgn op ++ [32] ++ par o2 t2 (lvl op + 1)
mutual
def textS : E → Bytes
  | .mk op n s args => bodyT op n s (textsS args)
def textsS : List E → List (Int × Bytes)
  | [] => []
  | x :: l => (x.op, textS x) :: textsS l
end
theorem par_len (op : Int) (t : Bytes) (k : Int) : (par op t k).length ≤ t.length + 2 := by
  unfold par
  split <;> simp
theorem ite_len {p : Prop} [Decidable p] {a b : Bytes} {n : Nat} (h1 : a.length ≤ n) (h2 : b.length ≤ n) : (if p then a else b).length ≤ n := by
  split
  · exact h1
  · exact h2
theorem wrd_len (op : Int) : (wrd op).length ≤ 6 := by
  unfold wrd
  repeat' (refine ite_len (by decide) ?_)
  decide
theorem sgn_len (op : Int) : (sgn op).length ≤ 3 := by
  unfold sgn
  repeat' (refine ite_len (by decide) ?_)
  decide
theorem quoteS_len (s : Bytes) : (quoteS s).length ≤ 2 * s.length + 2 := by
  have := escS_len s
  unfold quoteS
  simp
  omega
theorem decDigits_len (u : Nat) (h : u < 100000000000000000000) : (Lib.decDigits u).length ≤ 20 := by
  rw [Lib.decDigits_length]
  exact nDigits_le h
theorem itoa_len (n : Int) (hn : i64 n) : (Lib.itoa n).length ≤ 21 := by
  obtain ⟨h1, h2⟩ := hn
  unfold Lib.itoa
  split
  · have := decDigits_len n.natAbs (by omega)
    simp
    omega
  · have := decDigits_len n.toNat (by omega)
    omega
def textN : List (Int × Bytes) → Nat
  | [] => 0
  | (_, t) :: l => t.length + 2 + textN l
theorem bodyT_len (op n : Int) (s : Bytes) (ts : List (Int × Bytes)) (hn : i64 n) (hs : s.length ≤ 64) : (bodyT op n s ts).length + 2 ≤ 140 + textN ts := by
  have h1 := itoa_len n hn
  have h2 := quoteS_len s
  unfold bodyT
  split
  · omega
  split
  · omega
  split
  · omega
  have h4 := wrd_len op
  have h5 := sgn_len op
  split
  · simp; omega
  · rename_i o t
    have h6 := par_len o t 3
    have h7 := par_len o t 8
    simp only [textN]
    split
    · simp; omega
    split
    · simp; omega
    · simp; omega
  · rename_i o1 t1 o2 t2 l
    have h6 := par_len o1 t1 5
    have h7 := par_len o2 t2 5
    have h8 := par_len o1 t1 (lvl op)
    have h9 := par_len o2 t2 (lvl op + 1)
    simp only [textN]
    split
    · simp; omega
    · simp; omega
theorem wrap_step {d : Int} (h0 : 0 ≤ d) (h1 : d ≤ 12) : IntKind.i64.wrap (d + 1) = d + 1 := by rw [wrap_in] <;> omega
mutual
theorem textS_len : ∀ (e : E) (d : Int) (r : Bool), E.Ok e → chkE e d = 0 → 0 ≤ d → (textS e).length + 2 ≤ 140 * (visE e r).length
  | .mk op n s args, d, r, hok, h, h0 => by
    rw [chkE_zero] at h
    obtain ⟨hn, hL⟩ := h
    obtain ⟨k1, k2, k3, k4, k5⟩ := nodeS_zero hn
    rw [wrap_step h0 k4] at hL
    have h2 := textsS_len args (d + 1) (fun x hx => hok.arg x hx) hL (by omega)
    have h3 := bodyT_len op n s (textsS args) hok.n k1
    rw [textS, visE]
    simp only [List.length_cons]
    omega
theorem textsS_len : ∀ (l : List E) (d : Int), (∀ x ∈ l, E.Ok x) → chkL l d = 0 → 0 ≤ d → textN (textsS l) ≤ 140 * (visEs l).length
  | [], d, _, _, _ => by simp [textsS, textN, visEs]
  | x :: l, d, hok, h, h0 => by
    rw [chkL_cons] at h
    have h1 := textS_len x d false (hok x (List.mem_cons_self ..)) h.1 h0
    have h2 := textsS_len l d (fun y hy => hok y (List.mem_cons_of_mem _ hy)) h.2 h0
    rw [textsS, textN, visEs, List.length_append]
    omega
end
theorem ar_two (op : Int) : ar op ≤ 2 := by unfold ar; repeat' split <;> omega
mutual
theorem vis_small : ∀ (e : E) (k : Nat) (r : Bool), chkE e ((13 - k : Nat) : Int) = 0 → k ≤ 13 → (visE e r).length + 1 ≤ 2 ^ k
  | .mk op n s args, k, r, h, hk => by
    rw [chkE_zero] at h
    obtain ⟨hn, hL⟩ := h
    obtain ⟨k1, k2, k3, k4, k5⟩ := nodeS_zero hn
    have h2 := ar_two op
    rw [wrap_step (by omega) k4] at hL
    obtain ⟨j, rfl⟩ : ∃ j, k = j + 1 := ⟨k - 1, by omega⟩
    have e : ((13 - (j + 1) : Nat) : Int) + 1 = ((13 - j : Nat) : Int) := by omega
    rw [e] at hL
    have h3 := vis_smalls args j hL (by omega)
    rw [visE, Nat.pow_succ]
    simp only [List.length_cons]
    have h4 : args.length * 2 ^ j ≤ 2 * 2 ^ j := Nat.mul_le_mul_right _ (by omega)
    have h5 : 1 ≤ 2 ^ j := Nat.one_le_two_pow
    rcases Nat.eq_zero_or_pos args.length with h6 | h6
    · rw [h6] at h3; omega
    · rcases Nat.lt_or_ge 1 args.length with h7 | h7
      · omega
      · have : args.length = 1 := by omega
        rw [this] at h3; omega
theorem vis_smalls : ∀ (l : List E) (k : Nat), chkL l ((13 - k : Nat) : Int) = 0 → k ≤ 13 → (visEs l).length + l.length ≤ l.length * 2 ^ k
  | [], k, _, _ => by simp [visEs]
  | x :: l, k, h, hk => by
    rw [chkL_cons] at h
    have h1 := vis_small x k false h.1 hk
    have h2 := vis_smalls l k h.2 hk
    rw [visEs, List.length_append, List.length_cons, Nat.add_mul]
    omega
end
theorem textS_small {e : E} {d : Int} (hok : e.Ok) (h : chkE e d = 0) (h0 : 0 ≤ d) (h1 : d ≤ 12) : (textS e).length ≤ 1146880 := by
  have h2 := textS_len e d false hok h h0
  obtain ⟨k, hk⟩ : ∃ k : Nat, k = 13 - d.toNat := ⟨_, rfl⟩
  have e1 : d = ((13 - k : Nat) : Int) := by omega
  rw [e1] at h
  have h3 := vis_small e k false h (by omega)
  have h4 : 2 ^ k ≤ 2 ^ 13 := Nat.pow_le_pow_right (by decide) (by omega)
  have e2 : (2 : Nat) ^ 13 = 8192 := by decide
  omega
end Go.Proofs.YtfflfaedghfmdaaDoor
set_option linter.all false
namespace Go.Proofs.YtfflfaedghfmdaaDoor
open Go.Abs
attribute [local congr] ite_congr
set_option maxRecDepth 100000
theorem leaf_lvl {op : Int} (h : ar op = 0) (h1 : op ≠ 1) (h2 : op ≠ 2) (h3 : op ≠ 3) : lvl op = 9 ∧ 25 ≤ op ∧ op ≤ 27 := by
  unfold ar at h
  have : op = 25 ∨ op = 26 ∨ op = 27 := by
    repeat' split at h
    all_goals omega
  rcases this with rfl | rfl | rfl <;> decide
theorem una_ops {op : Int} (h : ar op = 1) (h1 : op ≠ 18) (h2 : op ≠ 9) : op = 20 ∨ op = 21 ∨ op = 22 ∨ op = 23 ∨ op = 24 := by
  unfold ar at h
  repeat' split at h
  all_goals omega
theorem una_lvl {op : Int} (h : ar op = 1) (h1 : op ≠ 18) (h2 : op ≠ 9) : lvl op = 9 := by
  rcases una_ops h h1 h2 with rfl | rfl | rfl | rfl | rfl <;> decide
theorem bin_ops {op : Int} (h : ar op = 2) : op = 4 ∨ op = 5 ∨ op = 6 ∨ op = 7 ∨ op = 8 ∨ op = 10 ∨ op = 11 ∨ op = 12 ∨ op = 13 ∨ op = 14 ∨ op = 15 ∨ op = 16 ∨ op = 17 ∨ op = 19 := by
  unfold ar at h
  repeat' split at h
  all_goals omega
theorem bin_lvl {op : Int} (h : ar op = 2) : lvl op ≠ 9 ∧ op ≠ 18 ∧ op ≠ 9 ∧ op ≠ 1 ∧ op ≠ 2 ∧ op ≠ 3 ∧ 1 ≤ lvl op ∧ lvl op ≤ 8 := by
  rcases bin_ops h with rfl | rfl | rfl | rfl | rfl | rfl | rfl | rfl | rfl | rfl | rfl | rfl | rfl | rfl <;> decide
theorem una_ne {op : Int} (h : ar op = 1) : op ≠ 1 ∧ op ≠ 2 ∧ op ≠ 3 := by
  refine ⟨?_, ?_, ?_⟩ <;> (rintro rfl; exact absurd h (by decide))
theorem wrdR_eq {op : Int} (h : 20 ≤ op ∧ op ≤ 27) : wrdR op = wrd op := by
  have : op = 20 ∨ op = 21 ∨ op = 22 ∨ op = 23 ∨ op = 24 ∨ op = 25 ∨ op = 26 ∨ op = 27 := by omega
  rcases this with rfl | rfl | rfl | rfl | rfl | rfl | rfl | rfl <;> decide
theorem una_word {op : Int} (h : ar op = 1) (h1 : op ≠ 18) (h2 : op ≠ 9) : 20 ≤ op ∧ op ≤ 27 := by
  rcases una_ops h h1 h2 with rfl | rfl | rfl | rfl | rfl <;> decide
theorem decF {p : Prop} [Decidable p] (h : ¬ p) : decide p = false := by simp [h]
theorem decT {p : Prop} [Decidable p] (h : p) : decide p = true := by simp [h]
theorem nodeS_more {op n d : Int} {s : Bytes} {len : Nat} (h : nodeS op n s len d = 0) : (op = 2 → plainS s = true) ∧ (op = 1 → 0 ≤ n) ∧ (op ≠ 1 → n = 0) ∧ (op ≠ 2 → op ≠ 3 → s = []) := by
  unfold nodeS at h
  split at h
  · cases h
  rename_i h1
  split at h
  · cases h
  rename_i h2
  split at h
  · cases h
  rename_i h3
  simp at h1 h3
  exact ⟨fun ho => h3.1.2 ho, fun ho => by have := h3.1.1 ho; omega, fun ho => by have := h1.1.2; omega, fun ha hb => h1.2 ha hb⟩

theorem atP (x : E) (k : Int) (A : AHeap) (h1 : acl C 30 [E.av x] A = some (.d (.str (textS x)), A)) (h2 : (textS x).length ≤ 1146880) : acl C 52 [E.av x, .d (.int .i64 k)] A = some (.d (.str (par x.op (textS x) k)), A) := by
  have e1 := levelP x.op A
  have c1 := sadd (a := [40]) (b := textS x) (by simp; omega)
  have c2 := sadd (a := [40] ++ textS x) (b := [41]) (by simp; omega)
  rw [List.append_assoc] at c2
  change ∀ t, abin _ _ _ _ _ = some (.d (.str (40 :: (textS x ++ [41])))) at c2
  obtain ⟨op, n, s, args⟩ := x
  rw [k_call (c := C) (f := 52) rfl Tryd.func52 rfl (ok 52 (by kernel_rfl)) rfl Tryd.ntmps52 Tryd.results52 (by simp)]
  unfold par
  generalize textS (.mk op n s args) = q at *
  generalize [40] ++ q = q1 at *
  generalize 40 :: (q ++ [41]) = q2 at *
  cases hd : decide (lvl op < k) with
  | true =>
    rw [if_pos (by simpa using hd)]
    simp (maxSteps := 1000000) only [go_sem, acondK_bool, acB_merge, Nat.reduceLT, Nat.reduceLeDiff, Nat.reduceEqDiff, Nat.reduceAdd, Nat.reduceSub, Nat.reduceMul, Nat.reduceBEq, Nat.reduceBNe, Nat.reduceBneDiff, Nat.reduceBeqDiff, Int.reduceToNat, Int.reduceLE, Int.reduceLT, Int.reduceEq, Int.reduceNe, Int.reduceNeg, Int.reduceAdd, Int.reduceSub, ↓reduceIte, reduceCtorEq, e1, hd, h1, c1, c2]
  | false =>
    rw [if_neg (by simpa using hd)]
    simp (maxSteps := 1000000) only [go_sem, acondK_bool, acB_merge, Nat.reduceLT, Nat.reduceLeDiff, Nat.reduceEqDiff, Nat.reduceAdd, Nat.reduceSub, Nat.reduceMul, Nat.reduceBEq, Nat.reduceBNe, Nat.reduceBneDiff, Nat.reduceBeqDiff, Int.reduceToNat, Int.reduceLE, Int.reduceLT, Int.reduceEq, Int.reduceNe, Int.reduceNeg, Int.reduceAdd, Int.reduceSub, ↓reduceIte, reduceCtorEq, e1, hd, h1]

theorem atR (x : E) (k : Int) (A : AHeap) (h1 : acl C 34 [E.av x] A = some (.d (.str (textS x)), A)) (h2 : (textS x).length ≤ 1146880) : acl C 59 [E.av x, .d (.int .i64 k)] A = some (.d (.str (par x.op (textS x) k)), A) := by
  have e1 := levelR x.op A
  have c1 := sadd (a := [40]) (b := textS x) (by simp; omega)
  have c2 := sadd (a := [40] ++ textS x) (b := [41]) (by simp; omega)
  rw [List.append_assoc] at c2
  change ∀ t, abin _ _ _ _ _ = some (.d (.str (40 :: (textS x ++ [41])))) at c2
  obtain ⟨op, n, s, args⟩ := x
  rw [k_call (c := C) (f := 59) rfl Tryd.func59 rfl (ok 59 (by kernel_rfl)) rfl Tryd.ntmps59 Tryd.results59 (by simp)]
  unfold par
  generalize textS (.mk op n s args) = q at *
  generalize [40] ++ q = q1 at *
  generalize 40 :: (q ++ [41]) = q2 at *
  cases hd : decide (lvl op < k) with
  | true =>
    rw [if_pos (by simpa using hd)]
    simp (maxSteps := 1000000) only [go_sem, acondK_bool, acB_merge, Nat.reduceLT, Nat.reduceLeDiff, Nat.reduceEqDiff, Nat.reduceAdd, Nat.reduceSub, Nat.reduceMul, Nat.reduceBEq, Nat.reduceBNe, Nat.reduceBneDiff, Nat.reduceBeqDiff, Int.reduceToNat, Int.reduceLE, Int.reduceLT, Int.reduceEq, Int.reduceNe, Int.reduceNeg, Int.reduceAdd, Int.reduceSub, ↓reduceIte, reduceCtorEq, e1, hd, h1, c1, c2]
  | false =>
    rw [if_neg (by simpa using hd)]
    simp (maxSteps := 1000000) only [go_sem, acondK_bool, acB_merge, Nat.reduceLT, Nat.reduceLeDiff, Nat.reduceEqDiff, Nat.reduceAdd, Nat.reduceSub, Nat.reduceMul, Nat.reduceBEq, Nat.reduceBNe, Nat.reduceBneDiff, Nat.reduceBeqDiff, Int.reduceToNat, Int.reduceLE, Int.reduceLT, Int.reduceEq, Int.reduceNe, Int.reduceNeg, Int.reduceAdd, Int.reduceSub, ↓reduceIte, reduceCtorEq, e1, hd, h1]

set_option maxHeartbeats 4000000 in
theorem textP : ∀ e, E.Ok e → ∀ d, chkE e d = 0 → 0 ≤ d → ∀ (A : AHeap), acl C 30 [E.av e] A = some (.d (.str (textS e)), A) := by
  intro e
  induction e using E.ind with
  | h op n s args ih =>
    intro hok d hv h0d A
    have hv' := hv
    rw [chkE_zero] at hv
    obtain ⟨hn, hL⟩ := hv
    have hz := nodeS_zero hn
    obtain ⟨m1, m2, m3, m4⟩ := nodeS_more hn
    have hs := hz.1
    rw [wrap_step h0d hz.2.2.2.1] at hL
    have hd12 : d ≤ 12 := hz.2.2.2.1
    have hd13 : ∀ x ∈ args, d + 1 ≤ 12 := fun x hx => by
      obtain ⟨op', n', s', args'⟩ := x
      have := chkL_mem _ _ hL _ hx
      rw [chkE_zero] at this
      exact (nodeS_zero this.1).2.2.2.1
    have v1 := levelP op A
    rw [textS]
    rw [k_call (c := C) (f := 30) rfl Tryd.func30 rfl (ok 30 (by kernel_rfl)) rfl Tryd.ntmps30 Tryd.results30 (by simp)]
    rcases ar_cases hz.2.1 with ha | ha | ha
    · have hargs : args = [] := by
        have := hz.2.2.1
        rw [ha] at this
        cases args with
        | nil => rfl
        | cons _ _ => simp at this; omega
      subst hargs
      rw [textsS]
      unfold bodyT
      by_cases h1 : op = 1
      · rw [if_pos h1]
        have g1 := decT h1
        simp (maxSteps := 1000000) only [go_sem, acondK_bool, acB_merge, Nat.reduceLT, Nat.reduceLeDiff, Nat.reduceEqDiff, Nat.reduceAdd, Nat.reduceSub, Nat.reduceMul, Nat.reduceBEq, Nat.reduceBNe, Nat.reduceBneDiff, Nat.reduceBeqDiff, Int.reduceToNat, Int.reduceLE, Int.reduceLT, Int.reduceEq, Int.reduceNe, Int.reduceNeg, Int.reduceAdd, Int.reduceSub, ↓reduceIte, reduceCtorEq, v1, g1, formatP n hok.n]
      by_cases h2 : op = 2
      · rw [if_neg h1, if_pos h2]
        have g1 := decF h1
        have g2 := decT h2
        simp (maxSteps := 1000000) only [go_sem, acondK_bool, acB_merge, Nat.reduceLT, Nat.reduceLeDiff, Nat.reduceEqDiff, Nat.reduceAdd, Nat.reduceSub, Nat.reduceMul, Nat.reduceBEq, Nat.reduceBNe, Nat.reduceBneDiff, Nat.reduceBeqDiff, Int.reduceToNat, Int.reduceLE, Int.reduceLT, Int.reduceEq, Int.reduceNe, Int.reduceNeg, Int.reduceAdd, Int.reduceSub, ↓reduceIte, reduceCtorEq, v1, g1, g2, quoteP s (m1 h2)]
      by_cases h3 : op = 3
      · rw [if_neg h1, if_neg h2, if_pos h3]
        have g1 := decF h1
        have g2 := decF h2
        have g3 := decT h3
        simp (maxSteps := 1000000) only [go_sem, acondK_bool, acB_merge, Nat.reduceLT, Nat.reduceLeDiff, Nat.reduceEqDiff, Nat.reduceAdd, Nat.reduceSub, Nat.reduceMul, Nat.reduceBEq, Nat.reduceBNe, Nat.reduceBneDiff, Nat.reduceBeqDiff, Int.reduceToNat, Int.reduceLE, Int.reduceLT, Int.reduceEq, Int.reduceNe, Int.reduceNeg, Int.reduceAdd, Int.reduceSub, ↓reduceIte, reduceCtorEq, v1, g1, g2, g3]
      obtain ⟨hl, h25, h27⟩ := leaf_lvl ha h1 h2 h3
      rw [if_neg h1, if_neg h2, if_neg h3]
      dsimp only
      have e4 := wordP op A
      have c1 := sadd (a := wrd op) (b := [40, 41]) (by have := wrd_len op; simp; omega)
      have g1 := decF h1
      have g2 := decF h2
      have g3 := decF h3
      have g18 : decide (op = 18) = false := decF (by omega)
      have g9 : decide (op = 9) = false := decF (by omega)
      rw [hl] at v1
      generalize wrd op ++ [40, 41] = q1 at *
      generalize wrd op = q at *
      simp (maxSteps := 1000000) only [go_sem, acondK_bool, acB_merge, Nat.reduceLT, Nat.reduceLeDiff, Nat.reduceEqDiff, Nat.reduceAdd, Nat.reduceSub, Nat.reduceMul, Nat.reduceBEq, Nat.reduceBNe, Nat.reduceBneDiff, Nat.reduceBeqDiff, Int.reduceToNat, Int.reduceLE, Int.reduceLT, Int.reduceEq, Int.reduceNe, Int.reduceNeg, Int.reduceAdd, Int.reduceSub, ↓reduceIte, reduceCtorEq, v1, g1, g2, g3, g18, g9, e4, c1]
    · obtain ⟨x, rfl⟩ : ∃ x, args = [x] := by
        have := hz.2.2.1
        rw [ha] at this
        match args, this with
        | [x], _ => exact ⟨x, rfl⟩
        | [], h => simp at h
        | _ :: _ :: _, h => simp at h; omega
      have hx := chkL_mem _ _ hL x (List.mem_cons_self ..)
      have t1 := ih x (List.mem_cons_self ..) (hok.arg x (List.mem_cons_self ..)) _ hx (by omega) A
      have b1 := textS_small (hok.arg x (List.mem_cons_self ..)) hx (by omega) (hd13 x (List.mem_cons_self ..))
      have a1 := fun k => atP x k A t1 b1
      have e3 := E.row_eq x
      obtain ⟨h1, h2, h3⟩ := una_ne ha
      have g1 := decF h1
      have g2 := decF h2
      have g3 := decF h3
      have p1 := fun k => par_len x.op (textS x) k
      simp only [textsS]
      unfold bodyT
      rw [if_neg h1, if_neg h2, if_neg h3]
      dsimp only
      by_cases h18 : op = 18
      · rw [if_pos h18]
        have g18 := decT h18
        have c1 := sadd (a := [110, 111, 116, 32]) (b := par x.op (textS x) 3) (by have := p1 3; simp; omega)
        have a2 := a1 3
        have e5 : lvl op = 3 := by rw [h18]; rfl
        rw [e5] at v1
        generalize [110, 111, 116, 32] ++ par x.op (textS x) 3 = q1 at *
        generalize par x.op (textS x) 3 = q at *
        simp (maxSteps := 1000000) only [go_sem, acondK_bool, acB_merge, Nat.reduceLT, Nat.reduceLeDiff, Nat.reduceEqDiff, Nat.reduceAdd, Nat.reduceSub, Nat.reduceMul, Nat.reduceBEq, Nat.reduceBNe, Nat.reduceBneDiff, Nat.reduceBeqDiff, Int.reduceToNat, Int.reduceLE, Int.reduceLT, Int.reduceEq, Int.reduceNe, Int.reduceNeg, Int.reduceAdd, Int.reduceSub, ↓reduceIte, reduceCtorEq, v1, g1, g2, g3, g18, e3, a2, c1]
      rw [if_neg h18]
      have g18 := decF h18
      by_cases h9 : op = 9
      · rw [if_pos h9]
        have g9 := decT h9
        have c1 := sadd (a := [45]) (b := par x.op (textS x) 8) (by have := p1 8; simp; omega)
        have a2 := a1 8
        have e5 : lvl op = 8 := by rw [h9]; rfl
        rw [e5] at v1
        generalize [45] ++ par x.op (textS x) 8 = q1 at *
        generalize par x.op (textS x) 8 = q at *
        simp (maxSteps := 1000000) only [go_sem, acondK_bool, acB_merge, Nat.reduceLT, Nat.reduceLeDiff, Nat.reduceEqDiff, Nat.reduceAdd, Nat.reduceSub, Nat.reduceMul, Nat.reduceBEq, Nat.reduceBNe, Nat.reduceBneDiff, Nat.reduceBeqDiff, Int.reduceToNat, Int.reduceLE, Int.reduceLT, Int.reduceEq, Int.reduceNe, Int.reduceNeg, Int.reduceAdd, Int.reduceSub, ↓reduceIte, reduceCtorEq, v1, g1, g2, g3, g18, g9, e3, a2, c1]
      rw [if_neg h9]
      have g9 := decF h9
      have e4 := wordP op A
      rw [una_lvl ha h18 h9] at v1
      have c1 := sadd (a := wrd op) (b := [40]) (by have := wrd_len op; simp; omega)
      have c2 := sadd (a := wrd op ++ [40]) (b := textS x) (by have := wrd_len op; simp; omega)
      have c3 := sadd (a := wrd op ++ [40] ++ textS x) (b := [41]) (by have := wrd_len op; simp; omega)
      generalize wrd op ++ [40] ++ textS x ++ [41] = q3 at *
      generalize wrd op ++ [40] ++ textS x = q2 at *
      generalize wrd op ++ [40] = q1 at *
      generalize wrd op = q at *
      generalize textS x = qx at *
      simp (maxSteps := 1000000) only [go_sem, acondK_bool, acB_merge, Nat.reduceLT, Nat.reduceLeDiff, Nat.reduceEqDiff, Nat.reduceAdd, Nat.reduceSub, Nat.reduceMul, Nat.reduceBEq, Nat.reduceBNe, Nat.reduceBneDiff, Nat.reduceBeqDiff, Int.reduceToNat, Int.reduceLE, Int.reduceLT, Int.reduceEq, Int.reduceNe, Int.reduceNeg, Int.reduceAdd, Int.reduceSub, ↓reduceIte, reduceCtorEq, v1, g1, g2, g3, g18, g9, e3, e4, t1, c1, c2, c3, k_drawn_q]
    · obtain ⟨x, y, rfl⟩ : ∃ x y, args = [x, y] := by
        have := hz.2.2.1
        rw [ha] at this
        match args, this with
        | [x, y], _ => exact ⟨x, y, rfl⟩
        | [x], h => simp at h
        | [], h => simp at h
        | _ :: _ :: _ :: _, h => simp at h; omega
      have hx := chkL_mem _ _ hL x (List.mem_cons_self ..)
      have hy := chkL_mem _ _ hL y (by simp)
      have t1 := ih x (List.mem_cons_self ..) (hok.arg x (List.mem_cons_self ..)) _ hx (by omega) A
      have t2 := ih y (by simp) (hok.arg y (by simp)) _ hy (by omega) A
      have b1 := textS_small (hok.arg x (List.mem_cons_self ..)) hx (by omega) (hd13 x (List.mem_cons_self ..))
      have b2 := textS_small (hok.arg y (by simp)) hy (by omega) (hd13 y (by simp))
      have e3 := E.row_eq x
      have e4 := E.row_eq y
      obtain ⟨n9, h18, h9, h1, h2, h3, l1, l8⟩ := bin_lvl ha
      have g1 := decF h1
      have g2 := decF h2
      have g3 := decF h3
      have g18 := decF h18
      have g9 := decF h9
      have gl9 := decF n9
      have sg := signP op A
      have sl := sgn_len op
      have p1 := fun k => par_len x.op (textS x) k
      have p2 := fun k => par_len y.op (textS y) k
      simp only [textsS]
      unfold bodyT
      rw [if_neg h1, if_neg h2, if_neg h3]
      dsimp only
      by_cases h4 : lvl op = 4
      · rw [if_pos h4]
        have gl4 := decT h4
        have a1 := atP x 5 A t1 b1
        have a2 := atP y 5 A t2 b2
        have c1 := sadd (a := par x.op (textS x) 5) (b := [32]) (by have := p1 5; simp; omega)
        have c2 := sadd (a := par x.op (textS x) 5 ++ [32]) (b := sgn op) (by have := p1 5; simp; omega)
        have c3 := sadd (a := par x.op (textS x) 5 ++ [32] ++ sgn op) (b := [32]) (by have := p1 5; simp; omega)
        have c4 := sadd (a := par x.op (textS x) 5 ++ [32] ++ sgn op ++ [32]) (b := par y.op (textS y) 5) (by have := p1 5; have := p2 5; simp; omega)
        generalize par x.op (textS x) 5 ++ [32] ++ sgn op ++ [32] ++ par y.op (textS y) 5 = q5 at *
        generalize par x.op (textS x) 5 ++ [32] ++ sgn op ++ [32] = q4 at *
        generalize par x.op (textS x) 5 ++ [32] ++ sgn op = q3 at *
        generalize par x.op (textS x) 5 ++ [32] = q2 at *
        generalize par x.op (textS x) 5 = q1 at *
        generalize par y.op (textS y) 5 = r1 at *
        generalize sgn op = r2 at *
        simp (maxSteps := 1000000) only [go_sem, acondK_bool, acB_merge, Nat.reduceLT, Nat.reduceLeDiff, Nat.reduceEqDiff, Nat.reduceAdd, Nat.reduceSub, Nat.reduceMul, Nat.reduceBEq, Nat.reduceBNe, Nat.reduceBneDiff, Nat.reduceBeqDiff, Int.reduceToNat, Int.reduceLE, Int.reduceLT, Int.reduceEq, Int.reduceNe, Int.reduceNeg, Int.reduceAdd, Int.reduceSub, ↓reduceIte, reduceCtorEq, v1, h4, g1, g2, g3, g18, g9, e3, e4, a1, a2, sg, c1, c2, c3, c4, k_drawn_q]
      · rw [if_neg h4]
        have gl4 := decF h4
        have a1 := atP x (lvl op) A t1 b1
        have a2 := atP y (lvl op + 1) A t2 b2
        have w1 : IntKind.i64.wrap (lvl op + 1) = lvl op + 1 := by rw [wrap_in] <;> omega
        have c1 := sadd (a := par x.op (textS x) (lvl op)) (b := [32]) (by have := p1 (lvl op); simp; omega)
        have c2 := sadd (a := par x.op (textS x) (lvl op) ++ [32]) (b := sgn op) (by have := p1 (lvl op); simp; omega)
        have c3 := sadd (a := par x.op (textS x) (lvl op) ++ [32] ++ sgn op) (b := [32]) (by have := p1 (lvl op); simp; omega)
        have c4 := sadd (a := par x.op (textS x) (lvl op) ++ [32] ++ sgn op ++ [32]) (b := par y.op (textS y) (lvl op + 1)) (by have := p1 (lvl op); have := p2 (lvl op + 1); simp; omega)
        generalize par x.op (textS x) (lvl op) ++ [32] ++ sgn op ++ [32] ++ par y.op (textS y) (lvl op + 1) = q5 at *
        generalize par x.op (textS x) (lvl op) ++ [32] ++ sgn op ++ [32] = q4 at *
        generalize par x.op (textS x) (lvl op) ++ [32] ++ sgn op = q3 at *
        generalize par x.op (textS x) (lvl op) ++ [32] = q2 at *
        generalize par x.op (textS x) (lvl op) = q1 at *
        generalize par y.op (textS y) (lvl op + 1) = r1 at *
        generalize sgn op = r2 at *
        generalize lvl op = lo at *
        simp (maxSteps := 1000000) only [go_sem, acondK_bool, acB_merge, Nat.reduceLT, Nat.reduceLeDiff, Nat.reduceEqDiff, Nat.reduceAdd, Nat.reduceSub, Nat.reduceMul, Nat.reduceBEq, Nat.reduceBNe, Nat.reduceBneDiff, Nat.reduceBeqDiff, Int.reduceToNat, Int.reduceLE, Int.reduceLT, Int.reduceEq, Int.reduceNe, Int.reduceNeg, Int.reduceAdd, Int.reduceSub, ↓reduceIte, reduceCtorEq, v1, gl9, gl4, g1, g2, g3, g18, g9, e3, e4, a1, a2, sg, w1, c1, c2, c3, c4, k_drawn_q]

set_option maxHeartbeats 4000000 in
theorem textR : ∀ e, E.Ok e → ∀ d, chkE e d = 0 → 0 ≤ d → ∀ (A : AHeap), acl C 34 [E.av e] A = some (.d (.str (textS e)), A) := by
  intro e
  induction e using E.ind with
  | h op n s args ih =>
    intro hok d hv h0d A
    have hv' := hv
    rw [chkE_zero] at hv
    obtain ⟨hn, hL⟩ := hv
    have hz := nodeS_zero hn
    obtain ⟨m1, m2, m3, m4⟩ := nodeS_more hn
    have hs := hz.1
    rw [wrap_step h0d hz.2.2.2.1] at hL
    have hd12 : d ≤ 12 := hz.2.2.2.1
    have hd13 : ∀ x ∈ args, d + 1 ≤ 12 := fun x hx => by
      obtain ⟨op', n', s', args'⟩ := x
      have := chkL_mem _ _ hL _ hx
      rw [chkE_zero] at this
      exact (nodeS_zero this.1).2.2.2.1
    have v1 := levelR op A
    rw [textS]
    rw [k_call (c := C) (f := 34) rfl Tryd.func34 rfl (ok 34 (by kernel_rfl)) rfl Tryd.ntmps34 Tryd.results34 (by simp)]
    rcases ar_cases hz.2.1 with ha | ha | ha
    · have hargs : args = [] := by
        have := hz.2.2.1
        rw [ha] at this
        cases args with
        | nil => rfl
        | cons _ _ => simp at this; omega
      subst hargs
      rw [textsS]
      unfold bodyT
      by_cases h1 : op = 1
      · rw [if_pos h1]
        have g1 := decT h1
        simp (maxSteps := 1000000) only [go_sem, acondK_bool, acB_merge, Nat.reduceLT, Nat.reduceLeDiff, Nat.reduceEqDiff, Nat.reduceAdd, Nat.reduceSub, Nat.reduceMul, Nat.reduceBEq, Nat.reduceBNe, Nat.reduceBneDiff, Nat.reduceBeqDiff, Int.reduceToNat, Int.reduceLE, Int.reduceLT, Int.reduceEq, Int.reduceNe, Int.reduceNeg, Int.reduceAdd, Int.reduceSub, ↓reduceIte, reduceCtorEq, v1, g1, formatR n hok.n]
      by_cases h2 : op = 2
      · rw [if_neg h1, if_pos h2]
        have g1 := decF h1
        have g2 := decT h2
        simp (maxSteps := 1000000) only [go_sem, acondK_bool, acB_merge, Nat.reduceLT, Nat.reduceLeDiff, Nat.reduceEqDiff, Nat.reduceAdd, Nat.reduceSub, Nat.reduceMul, Nat.reduceBEq, Nat.reduceBNe, Nat.reduceBneDiff, Nat.reduceBeqDiff, Int.reduceToNat, Int.reduceLE, Int.reduceLT, Int.reduceEq, Int.reduceNe, Int.reduceNeg, Int.reduceAdd, Int.reduceSub, ↓reduceIte, reduceCtorEq, v1, g1, g2, quoteR s (m1 h2)]
      by_cases h3 : op = 3
      · rw [if_neg h1, if_neg h2, if_pos h3]
        have g1 := decF h1
        have g2 := decF h2
        have g3 := decT h3
        simp (maxSteps := 1000000) only [go_sem, acondK_bool, acB_merge, Nat.reduceLT, Nat.reduceLeDiff, Nat.reduceEqDiff, Nat.reduceAdd, Nat.reduceSub, Nat.reduceMul, Nat.reduceBEq, Nat.reduceBNe, Nat.reduceBneDiff, Nat.reduceBeqDiff, Int.reduceToNat, Int.reduceLE, Int.reduceLT, Int.reduceEq, Int.reduceNe, Int.reduceNeg, Int.reduceAdd, Int.reduceSub, ↓reduceIte, reduceCtorEq, v1, g1, g2, g3]
      obtain ⟨hl, h25, h27⟩ := leaf_lvl ha h1 h2 h3
      rw [if_neg h1, if_neg h2, if_neg h3]
      dsimp only
      have e4 := wordRf op A
      rw [wrdR_eq (⟨by omega, by omega⟩)] at e4
      have c1 := sadd (a := wrd op) (b := [40, 41]) (by have := wrd_len op; simp; omega)
      have g1 := decF h1
      have g2 := decF h2
      have g3 := decF h3
      have g18 : decide (op = 18) = false := decF (by omega)
      have g9 : decide (op = 9) = false := decF (by omega)
      rw [hl] at v1
      generalize wrd op ++ [40, 41] = q1 at *
      generalize wrd op = q at *
      simp (maxSteps := 1000000) only [go_sem, acondK_bool, acB_merge, Nat.reduceLT, Nat.reduceLeDiff, Nat.reduceEqDiff, Nat.reduceAdd, Nat.reduceSub, Nat.reduceMul, Nat.reduceBEq, Nat.reduceBNe, Nat.reduceBneDiff, Nat.reduceBeqDiff, Int.reduceToNat, Int.reduceLE, Int.reduceLT, Int.reduceEq, Int.reduceNe, Int.reduceNeg, Int.reduceAdd, Int.reduceSub, ↓reduceIte, reduceCtorEq, v1, g1, g2, g3, g18, g9, e4, c1]
    · obtain ⟨x, rfl⟩ : ∃ x, args = [x] := by
        have := hz.2.2.1
        rw [ha] at this
        match args, this with
        | [x], _ => exact ⟨x, rfl⟩
        | [], h => simp at h
        | _ :: _ :: _, h => simp at h; omega
      have hx := chkL_mem _ _ hL x (List.mem_cons_self ..)
      have t1 := ih x (List.mem_cons_self ..) (hok.arg x (List.mem_cons_self ..)) _ hx (by omega) A
      have b1 := textS_small (hok.arg x (List.mem_cons_self ..)) hx (by omega) (hd13 x (List.mem_cons_self ..))
      have a1 := fun k => atR x k A t1 b1
      have e3 := E.row_eq x
      obtain ⟨h1, h2, h3⟩ := una_ne ha
      have g1 := decF h1
      have g2 := decF h2
      have g3 := decF h3
      have p1 := fun k => par_len x.op (textS x) k
      simp only [textsS]
      unfold bodyT
      rw [if_neg h1, if_neg h2, if_neg h3]
      dsimp only
      by_cases h18 : op = 18
      · rw [if_pos h18]
        have g18 := decT h18
        have c1 := sadd (a := [110, 111, 116, 32]) (b := par x.op (textS x) 3) (by have := p1 3; simp; omega)
        have a2 := a1 3
        have e5 : lvl op = 3 := by rw [h18]; rfl
        rw [e5] at v1
        generalize [110, 111, 116, 32] ++ par x.op (textS x) 3 = q1 at *
        generalize par x.op (textS x) 3 = q at *
        simp (maxSteps := 1000000) only [go_sem, acondK_bool, acB_merge, Nat.reduceLT, Nat.reduceLeDiff, Nat.reduceEqDiff, Nat.reduceAdd, Nat.reduceSub, Nat.reduceMul, Nat.reduceBEq, Nat.reduceBNe, Nat.reduceBneDiff, Nat.reduceBeqDiff, Int.reduceToNat, Int.reduceLE, Int.reduceLT, Int.reduceEq, Int.reduceNe, Int.reduceNeg, Int.reduceAdd, Int.reduceSub, ↓reduceIte, reduceCtorEq, v1, g1, g2, g3, g18, e3, a2, c1]
      rw [if_neg h18]
      have g18 := decF h18
      by_cases h9 : op = 9
      · rw [if_pos h9]
        have g9 := decT h9
        have c1 := sadd (a := [45]) (b := par x.op (textS x) 8) (by have := p1 8; simp; omega)
        have a2 := a1 8
        have e5 : lvl op = 8 := by rw [h9]; rfl
        rw [e5] at v1
        generalize [45] ++ par x.op (textS x) 8 = q1 at *
        generalize par x.op (textS x) 8 = q at *
        simp (maxSteps := 1000000) only [go_sem, acondK_bool, acB_merge, Nat.reduceLT, Nat.reduceLeDiff, Nat.reduceEqDiff, Nat.reduceAdd, Nat.reduceSub, Nat.reduceMul, Nat.reduceBEq, Nat.reduceBNe, Nat.reduceBneDiff, Nat.reduceBeqDiff, Int.reduceToNat, Int.reduceLE, Int.reduceLT, Int.reduceEq, Int.reduceNe, Int.reduceNeg, Int.reduceAdd, Int.reduceSub, ↓reduceIte, reduceCtorEq, v1, g1, g2, g3, g18, g9, e3, a2, c1]
      rw [if_neg h9]
      have g9 := decF h9
      have e4 := wordRf op A
      rw [wrdR_eq (una_word ha h18 h9)] at e4
      rw [una_lvl ha h18 h9] at v1
      have c1 := sadd (a := wrd op) (b := [40]) (by have := wrd_len op; simp; omega)
      have c2 := sadd (a := wrd op ++ [40]) (b := textS x) (by have := wrd_len op; simp; omega)
      have c3 := sadd (a := wrd op ++ [40] ++ textS x) (b := [41]) (by have := wrd_len op; simp; omega)
      generalize wrd op ++ [40] ++ textS x ++ [41] = q3 at *
      generalize wrd op ++ [40] ++ textS x = q2 at *
      generalize wrd op ++ [40] = q1 at *
      generalize wrd op = q at *
      generalize textS x = qx at *
      simp (maxSteps := 1000000) only [go_sem, acondK_bool, acB_merge, Nat.reduceLT, Nat.reduceLeDiff, Nat.reduceEqDiff, Nat.reduceAdd, Nat.reduceSub, Nat.reduceMul, Nat.reduceBEq, Nat.reduceBNe, Nat.reduceBneDiff, Nat.reduceBeqDiff, Int.reduceToNat, Int.reduceLE, Int.reduceLT, Int.reduceEq, Int.reduceNe, Int.reduceNeg, Int.reduceAdd, Int.reduceSub, ↓reduceIte, reduceCtorEq, v1, g1, g2, g3, g18, g9, e3, e4, t1, c1, c2, c3, k_drawn_q]
    · obtain ⟨x, y, rfl⟩ : ∃ x y, args = [x, y] := by
        have := hz.2.2.1
        rw [ha] at this
        match args, this with
        | [x, y], _ => exact ⟨x, y, rfl⟩
        | [x], h => simp at h
        | [], h => simp at h
        | _ :: _ :: _ :: _, h => simp at h; omega
      have hx := chkL_mem _ _ hL x (List.mem_cons_self ..)
      have hy := chkL_mem _ _ hL y (by simp)
      have t1 := ih x (List.mem_cons_self ..) (hok.arg x (List.mem_cons_self ..)) _ hx (by omega) A
      have t2 := ih y (by simp) (hok.arg y (by simp)) _ hy (by omega) A
      have b1 := textS_small (hok.arg x (List.mem_cons_self ..)) hx (by omega) (hd13 x (List.mem_cons_self ..))
      have b2 := textS_small (hok.arg y (by simp)) hy (by omega) (hd13 y (by simp))
      have e3 := E.row_eq x
      have e4 := E.row_eq y
      obtain ⟨n9, h18, h9, h1, h2, h3, l1, l8⟩ := bin_lvl ha
      have g1 := decF h1
      have g2 := decF h2
      have g3 := decF h3
      have g18 := decF h18
      have g9 := decF h9
      have gl9 := decF n9
      have sg := signR op A
      have sl := sgn_len op
      have p1 := fun k => par_len x.op (textS x) k
      have p2 := fun k => par_len y.op (textS y) k
      simp only [textsS]
      unfold bodyT
      rw [if_neg h1, if_neg h2, if_neg h3]
      dsimp only
      by_cases h4 : lvl op = 4
      · rw [if_pos h4]
        have gl4 := decT h4
        have a1 := atR x 5 A t1 b1
        have a2 := atR y 5 A t2 b2
        have c1 := sadd (a := par x.op (textS x) 5) (b := [32]) (by have := p1 5; simp; omega)
        have c2 := sadd (a := par x.op (textS x) 5 ++ [32]) (b := sgn op) (by have := p1 5; simp; omega)
        have c3 := sadd (a := par x.op (textS x) 5 ++ [32] ++ sgn op) (b := [32]) (by have := p1 5; simp; omega)
        have c4 := sadd (a := par x.op (textS x) 5 ++ [32] ++ sgn op ++ [32]) (b := par y.op (textS y) 5) (by have := p1 5; have := p2 5; simp; omega)
        generalize par x.op (textS x) 5 ++ [32] ++ sgn op ++ [32] ++ par y.op (textS y) 5 = q5 at *
        generalize par x.op (textS x) 5 ++ [32] ++ sgn op ++ [32] = q4 at *
        generalize par x.op (textS x) 5 ++ [32] ++ sgn op = q3 at *
        generalize par x.op (textS x) 5 ++ [32] = q2 at *
        generalize par x.op (textS x) 5 = q1 at *
        generalize par y.op (textS y) 5 = r1 at *
        generalize sgn op = r2 at *
        simp (maxSteps := 1000000) only [go_sem, acondK_bool, acB_merge, Nat.reduceLT, Nat.reduceLeDiff, Nat.reduceEqDiff, Nat.reduceAdd, Nat.reduceSub, Nat.reduceMul, Nat.reduceBEq, Nat.reduceBNe, Nat.reduceBneDiff, Nat.reduceBeqDiff, Int.reduceToNat, Int.reduceLE, Int.reduceLT, Int.reduceEq, Int.reduceNe, Int.reduceNeg, Int.reduceAdd, Int.reduceSub, ↓reduceIte, reduceCtorEq, v1, h4, g1, g2, g3, g18, g9, e3, e4, a1, a2, sg, c1, c2, c3, c4, k_drawn_q]
      · rw [if_neg h4]
        have gl4 := decF h4
        have a1 := atR x (lvl op) A t1 b1
        have a2 := atR y (lvl op + 1) A t2 b2
        have w1 : IntKind.i64.wrap (lvl op + 1) = lvl op + 1 := by rw [wrap_in] <;> omega
        have c1 := sadd (a := par x.op (textS x) (lvl op)) (b := [32]) (by have := p1 (lvl op); simp; omega)
        have c2 := sadd (a := par x.op (textS x) (lvl op) ++ [32]) (b := sgn op) (by have := p1 (lvl op); simp; omega)
        have c3 := sadd (a := par x.op (textS x) (lvl op) ++ [32] ++ sgn op) (b := [32]) (by have := p1 (lvl op); simp; omega)
        have c4 := sadd (a := par x.op (textS x) (lvl op) ++ [32] ++ sgn op ++ [32]) (b := par y.op (textS y) (lvl op + 1)) (by have := p1 (lvl op); have := p2 (lvl op + 1); simp; omega)
        generalize par x.op (textS x) (lvl op) ++ [32] ++ sgn op ++ [32] ++ par y.op (textS y) (lvl op + 1) = q5 at *
        generalize par x.op (textS x) (lvl op) ++ [32] ++ sgn op ++ [32] = q4 at *
        generalize par x.op (textS x) (lvl op) ++ [32] ++ sgn op = q3 at *
        generalize par x.op (textS x) (lvl op) ++ [32] = q2 at *
        generalize par x.op (textS x) (lvl op) = q1 at *
        generalize par y.op (textS y) (lvl op + 1) = r1 at *
        generalize sgn op = r2 at *
        generalize lvl op = lo at *
        simp (maxSteps := 1000000) only [go_sem, acondK_bool, acB_merge, Nat.reduceLT, Nat.reduceLeDiff, Nat.reduceEqDiff, Nat.reduceAdd, Nat.reduceSub, Nat.reduceMul, Nat.reduceBEq, Nat.reduceBNe, Nat.reduceBneDiff, Nat.reduceBeqDiff, Int.reduceToNat, Int.reduceLE, Int.reduceLT, Int.reduceEq, Int.reduceNe, Int.reduceNeg, Int.reduceAdd, Int.reduceSub, ↓reduceIte, reduceCtorEq, v1, gl9, gl4, g1, g2, g3, g18, g9, e3, e4, a1, a2, sg, w1, c1, c2, c3, c4, k_drawn_q]
end Go.Proofs.YtfflfaedghfmdaaDoor
set_option linter.all false
namespace Go.Proofs.YtfflfaedghfmdaaDoor
open Go.Abs
attribute [local congr] ite_congr
set_option maxRecDepth 100000
def exprS (e : E) : Bytes := if chkE e 1 = 0 then textS e else []
theorem exprT (e : E) (hok : e.Ok) (A : AHeap) : acl C 12 [E.av e] A = some (.d (.str (exprS e)), A) := by
  have e1 := validExpr e hok A
  unfold exprS
  rw [k_call (c := C) (f := 12) rfl Tryd.func12 rfl (ok 12 (by kernel_rfl)) rfl Tryd.ntmps12 Tryd.results12 (by simp)]
  by_cases h : chkE e 1 = 0
  · have e2 := textP e hok 1 h (by decide) A
    rw [if_pos h]
    rw [h] at e1
    simp (maxSteps := 1000000) only [go_sem, acondK_bool, acB_merge, Nat.reduceLT, Nat.reduceLeDiff, Nat.reduceEqDiff, Nat.reduceAdd, Nat.reduceSub, Nat.reduceMul, Nat.reduceBEq, Nat.reduceBNe, Nat.reduceBneDiff, Nat.reduceBeqDiff, Int.reduceToNat, Int.reduceLE, Int.reduceLT, Int.reduceEq, Int.reduceNe, Int.reduceNeg, Int.reduceAdd, Int.reduceSub, ↓reduceIte, reduceCtorEq, e1, e2]
  · have g := decF h
    rw [if_neg h]
    simp (maxSteps := 1000000) only [go_sem, acondK_bool, acB_merge, Nat.reduceLT, Nat.reduceLeDiff, Nat.reduceEqDiff, Nat.reduceAdd, Nat.reduceSub, Nat.reduceMul, Nat.reduceBEq, Nat.reduceBNe, Nat.reduceBneDiff, Nat.reduceBeqDiff, Int.reduceToNat, Int.reduceLE, Int.reduceLT, Int.reduceEq, Int.reduceNe, Int.reduceNeg, Int.reduceAdd, Int.reduceSub, ↓reduceIte, reduceCtorEq, e1, g]
theorem exprTR (e : E) (hok : e.Ok) (A : AHeap) : acl C 14 [E.av e] A = some (.d (.str (exprS e)), A) := by
  have e1 := validExprR e hok A
  unfold exprS
  rw [k_call (c := C) (f := 14) rfl Tryd.func14 rfl (ok 14 (by kernel_rfl)) rfl Tryd.ntmps14 Tryd.results14 (by simp)]
  by_cases h : chkE e 1 = 0
  · have e2 := textR e hok 1 h (by decide) A
    rw [if_pos h]
    rw [h] at e1
    simp (maxSteps := 1000000) only [go_sem, acondK_bool, acB_merge, Nat.reduceLT, Nat.reduceLeDiff, Nat.reduceEqDiff, Nat.reduceAdd, Nat.reduceSub, Nat.reduceMul, Nat.reduceBEq, Nat.reduceBNe, Nat.reduceBneDiff, Nat.reduceBeqDiff, Int.reduceToNat, Int.reduceLE, Int.reduceLT, Int.reduceEq, Int.reduceNe, Int.reduceNeg, Int.reduceAdd, Int.reduceSub, ↓reduceIte, reduceCtorEq, e1, e2]
  · have g := decF h
    rw [if_neg h]
    simp (maxSteps := 1000000) only [go_sem, acondK_bool, acB_merge, Nat.reduceLT, Nat.reduceLeDiff, Nat.reduceEqDiff, Nat.reduceAdd, Nat.reduceSub, Nat.reduceMul, Nat.reduceBEq, Nat.reduceBNe, Nat.reduceBneDiff, Nat.reduceBeqDiff, Int.reduceToNat, Int.reduceLE, Int.reduceLT, Int.reduceEq, Int.reduceNe, Int.reduceNeg, Int.reduceAdd, Int.reduceSub, ↓reduceIte, reduceCtorEq, e1, g]
theorem lawPrinterExprs (e : E) (hok : e.Ok) (A : AHeap) : acl C 4 [E.av e] A = some (.d (.bool true), A) := by
  have e1 := exprT e hok A
  have e2 := exprTR e hok A
  have e3 := works A
  rw [k_call (c := C) (f := 4) rfl Tryd.func4 rfl (ok 4 (by kernel_rfl)) rfl Tryd.ntmps4 Tryd.results4 (by simp)]
  generalize exprS e = q at *
  simp (maxSteps := 1000000) only [go_sem, acondK_bool, acB_merge, Nat.reduceLT, Nat.reduceLeDiff, Nat.reduceEqDiff, Nat.reduceAdd, Nat.reduceSub, Nat.reduceMul, Nat.reduceBEq, Nat.reduceBNe, Nat.reduceBneDiff, Nat.reduceBeqDiff, Int.reduceToNat, Int.reduceLE, Int.reduceLT, Int.reduceEq, Int.reduceNe, Int.reduceNeg, Int.reduceAdd, Int.reduceSub, ↓reduceIte, reduceCtorEq, e1, e2, e3, k_drawn_q]
  rw [beq_self_eq_true]
theorem lawPrinterExprsC (e : E) (k : e.Ok ∧ wRow e.row ≤ 1048576) : acl C 4 [E.av e] A00 = some (.d (.bool true), A00) := lawPrinterExprs e k.1 A00
end Go.Proofs.YtfflfaedghfmdaaDoor
