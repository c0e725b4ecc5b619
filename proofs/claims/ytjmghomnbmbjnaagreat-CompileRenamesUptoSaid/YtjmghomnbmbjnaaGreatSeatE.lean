/- What holds of a valid procedure. -/
import Derived.Test.YtjmghomnbmbjnaaGreatSeatC
import Derived.Test.YtjmghomnbmbjnaaGreatSeatD
import Derived.Test.YtjmghomnbmbjnaaGreatGenC
import Derived.Test.YtjmghomnbmbjnaaGreatSeatA
set_option linter.unusedVariables false
set_option linter.unusedSimpArgs false
set_option linter.all false
set_option linter.deprecated false
set_option linter.all false
namespace Go.Proofs.YtjmghomnbmbjnaaGreat
open Go.Abs
theorem errV_zero : ∀ (l : List Vis), errV l = 0 ↔ ∀ x d, Vis.s x d ∈ l → stmtS x d = 0
  | [] => by simp [errV]
  | .s y k :: l => by
    simp only [errV]
    by_cases h : stmtS y k = 0
    · rw [if_pos h, errV_zero l]
      constructor
      · intro hh x d hm
        rcases List.mem_cons.1 hm with hm | hm
        · injection hm with h1 h2; subst h1; subst h2; exact h
        · exact hh x d hm
      · intro hh x d hm; exact hh x d (List.mem_cons_of_mem _ hm)
    · rw [if_neg h]
      constructor
      · intro h'; exact absurd h' h
      · intro hh; exact absurd (hh y k (List.mem_cons_self ..)) h
  | .e y r :: l => by
    simp only [errV]
    rw [errV_zero l]
    constructor
    · intro hh x d hm
      rcases List.mem_cons.1 hm with hm | hm
      · cases hm
      · exact hh x d hm
    · intro hh x d hm; exact hh x d (List.mem_cons_of_mem _ hm)
structure Vld (p : Pr) : Prop where
  name : isName p.name = true
  prm : prmS p.params = 0
  stm : ∀ x d, Vis.s x d ∈ visSs p.body 1 → stmtS x d = 0
  len : (visSs p.body 1).length ≤ 400
theorem Vld.vis {p : Pr} (h : Vld p) : visP p = visSs p.body 1 := by
  unfold visP
  rw [List.take_of_length_le]
  have := h.len
  omega
theorem valS_zero (p : Pr) : valS p = 0 ↔ Vld p := by
  unfold valS
  constructor
  · intro h
    split at h
    · cases h
    rename_i h1
    split at h
    · rename_i h2
      split at h
      · rename_i h3
        split at h
        · cases h
        · rename_i h4
          have h5 : (visP p).length ≤ 400 := by simp at h4; omega
          have h6 : (visSs p.body 1).length ≤ 400 := by
            unfold visP at h5; rw [List.length_take] at h5; omega
          have h7 : visP p = visSs p.body 1 := by unfold visP; rw [List.take_of_length_le]; omega
          rw [h7] at h3
          exact ⟨by simpa using h1, h2, (errV_zero _).1 h3, h6⟩
      · rename_i h3; exact absurd h h3
    · rename_i h2; exact absurd h h2
  · intro h
    have h7 := h.vis
    rw [if_neg (by simp [h.name]), if_pos h.prm, h7, if_pos ((errV_zero _).2 h.stm), if_neg]
    have := h.len
    simp
    omega
theorem chkE_zero (op n : Int) (s : Bytes) (args : List E) (d : Int) : chkE (.mk op n s args) d = 0 ↔ nodeS op n s args.length d = 0 ∧ chkL args (IntKind.i64.wrap (d + 1)) = 0 := by
  rw [chkE]
  by_cases h : nodeS op n s args.length d = 0
  · rw [if_pos h]; exact ⟨fun h' => ⟨h, h'⟩, fun h' => h'.2⟩
  · rw [if_neg h]; exact ⟨fun h' => absurd h' h, fun h' => h'.1⟩
theorem chkL_cons (x : E) (l : List E) (d : Int) : chkL (x :: l) d = 0 ↔ chkE x d = 0 ∧ chkL l d = 0 := by
  rw [chkL]
  by_cases h : chkE x d = 0
  · rw [if_pos h]; exact ⟨fun h' => ⟨h, h'⟩, fun h' => h'.2⟩
  · rw [if_neg h]; exact ⟨fun h' => absurd h' h, fun h' => h'.1⟩
theorem isName_len {s : Bytes} (h : isName s = true) : 1 ≤ s.length ∧ s.length ≤ 16 := by
  unfold isName at h
  split at h
  · cases h
  · simp at h
    have := h.1.1.1
    simp
    omega
theorem nodeS_zero {op n d : Int} {s : Bytes} {len : Nat} (h : nodeS op n s len d = 0) : s.length ≤ 64 ∧ 0 ≤ ar op ∧ (len : Int) = ar op ∧ d ≤ 12 ∧ (op = 3 → isName s = true) := by
  unfold nodeS at h
  split at h
  · cases h
  rename_i h1
  split at h
  · cases h
  rename_i h2
  split at h
  · cases h
  rename_i h3
  split at h
  · cases h
  rename_i h4
  simp at h1 h2 h3
  refine ⟨?_, by omega, h3.2, by omega, fun ho => h2 ho⟩
  by_cases ho3 : op = 3
  · have := isName_len (h2 ho3); omega
  · by_cases ho2 : op = 2
    · have hp := h3.1.2 ho2
      unfold plainS at hp
      simp at hp
      omega
    · have := h1.2 ho2 ho3
      subst this
      simp
theorem wrap_small {n : Int} (h : -1000000 ≤ n) (h' : n ≤ 1000000) : IntKind.i64.wrap n = n := by rw [wrap_in] <;> omega
mutual
theorem cntE_le : ∀ (e : E) (d m : Int) (r : Bool), chkE e d = 0 → (visE e r).length ≤ 400 → 0 ≤ m → m ≤ 800 → 1 ≤ cntE e m ∧ cntE e m ≤ 2 * (visE e r).length
  | .mk op n s args, d, m, r, h, hl, h0, hm => by
    rw [chkE_zero] at h
    obtain ⟨hn, hL⟩ := h
    have hs := (nodeS_zero hn).1
    have ht : Int.tdiv (s.length : Int) 64 = 0 ∨ Int.tdiv (s.length : Int) 64 = 1 := by
      rw [Int.tdiv_eq_ediv_of_nonneg (by omega)]
      omega
    have he : (visE (.mk op n s args) r).length = (visEs args).length + 1 := by simp [visE]
    rw [he] at hl
    have key : ∀ k : Int, 1 ≤ k → k ≤ 2 → 1 ≤ cntL args k m ∧ cntL args k m ≤ k + 2 * (visEs args).length := fun k h1 h2 => cntL_le args _ k m 2 hL h1 h2 (by omega) h0 hm
    rw [he]
    simp only [cntE]
    rcases ht with ht | ht
    · rw [ht, wrap_small (n := 0) (by omega) (by omega), wrap_small (by omega) (by omega)]
      have := key 1 (by omega) (by omega)
      simp only [Int.add_zero]
      omega
    · rw [ht, wrap_small (n := 1) (by omega) (by omega), wrap_small (by omega) (by omega)]
      have := key 2 (by omega) (by omega)
      have e2 : (1 : Int) + 1 = 2 := rfl
      rw [e2]
      omega
theorem cntL_le : ∀ (l : List E) (d k m q : Int), chkL l d = 0 → 1 ≤ k → k ≤ q → q + 2 * (visEs l).length ≤ 802 → 0 ≤ m → m ≤ 800 → 1 ≤ cntL l k m ∧ cntL l k m ≤ k + 2 * (visEs l).length
  | [], d, k, m, q, _, hk, hq, _, _, _ => by simp [cntL, visEs]; omega
  | x :: l, d, k, m, q, h, hk, hq, hl, h0, hm => by
    rw [chkL_cons] at h
    have he : (visEs (x :: l)).length = (visE x false).length + (visEs l).length := by simp [visEs]
    rw [he] at hl ⊢
    rw [cntL]
    split
    · rename_i hkm
      have h1 := cntE_le x d (m - k) false h.1 (by omega) (by omega) (by omega)
      rw [wrap_small (n := m - k) (by omega) (by omega), wrap_small (n := k + cntE x (m - k)) (by omega) (by omega)]
      have h2 := cntL_le l d (k + cntE x (m - k)) m (q + 2 * (visE x false).length) h.2 (by omega) (by omega) (by omega) h0 hm
      omega
    · omega
end
mutual
theorem noRootE : ∀ (e : E) (x : E), ¬ Vis.e x true ∈ visE e false
  | .mk op n s args, x, h => by
    simp only [visE, List.mem_cons] at h
    rcases h with h | h
    · injection h with _ h2; cases h2
    · exact noRootEs args x h
theorem noRootEs : ∀ (l : List E) (x : E), ¬ Vis.e x true ∈ visEs l
  | [], x, h => by simp [visEs] at h
  | y :: l, x, h => by
    simp only [visEs, List.mem_append] at h
    rcases h with h | h
    · exact noRootE y x h
    · exact noRootEs l x h
end
theorem rootE {e x : E} (h : Vis.e x true ∈ visE e true) : x = e := by
  cases e
  simp only [visE, List.mem_cons] at h
  rcases h with h | h
  · injection h
  · exact absurd h (noRootEs _ _)
def RootOf (l : List Vis) (e : E) : Prop := ∃ y k, Vis.s y k ∈ l ∧ ((e = y.a ∧ absE y.a = false) ∨ (e = y.b ∧ absE y.b = false)) ∧ (visE e true).length ≤ l.length
theorem RootOf.mono {l m : List Vis} {e : E} (h : RootOf l e) (hs : ∀ v ∈ l, v ∈ m) (hl : l.length ≤ m.length) : RootOf m e := by
  obtain ⟨y, k, h1, h2, h3⟩ := h
  exact ⟨y, k, hs _ h1, h2, by omega⟩
mutual
theorem rootS : ∀ (s : Stm) (d : Int) (e : E), Vis.e e true ∈ visS s d → RootOf (visS s d) e
  | .mk op name max a b body els, d, e, h => by
    simp only [visS, List.mem_cons, List.mem_append] at h
    rcases h with h | h | h | h | h
    · cases h
    · by_cases ha : absE a = true
      · rw [if_pos ha] at h; simp at h
      · rw [if_neg ha] at h
        have := rootE h
        subst this
        refine ⟨_, d, List.mem_cons_self .., .inl ⟨rfl, by simpa using ha⟩, ?_⟩
        simp [visS, ha]
        omega
    · by_cases hb : absE b = true
      · rw [if_pos hb] at h; simp at h
      · rw [if_neg hb] at h
        have := rootE h
        subst this
        refine ⟨_, d, List.mem_cons_self .., .inr ⟨rfl, by simpa using hb⟩, ?_⟩
        simp [visS, hb]
        omega
    · refine (rootSs body _ e h).mono (fun v hv => ?_) ?_
      · simp only [visS, List.mem_cons, List.mem_append]; exact .inr (.inr (.inr (.inl hv)))
      · simp [visS]; omega
    · refine (rootSs els _ e h).mono (fun v hv => ?_) ?_
      · simp only [visS, List.mem_cons, List.mem_append]; exact .inr (.inr (.inr (.inr hv)))
      · simp [visS]; omega
theorem rootSs : ∀ (l : List Stm) (d : Int) (e : E), Vis.e e true ∈ visSs l d → RootOf (visSs l d) e
  | [], _, _, h => by simp [visSs] at h
  | y :: l, d, e, h => by
    simp only [visSs, List.mem_append] at h
    rcases h with h | h
    · refine (rootS y d e h).mono (fun v hv => ?_) ?_
      · simp only [visSs, List.mem_append]; exact .inl hv
      · simp [visSs]
    · refine (rootSs l d e h).mono (fun v hv => ?_) ?_
      · simp only [visSs, List.mem_append]; exact .inr hv
      · simp [visSs]
end
theorem mem_rootsV : ∀ (l : List Vis) (e : E), e ∈ rootsV l ↔ Vis.e e true ∈ l
  | [], e => by simp [rootsV]
  | .s y k :: l, e => by rw [rootsV, mem_rootsV l e]; simp
  | .e y true :: l, e => by rw [rootsV, List.mem_cons, mem_rootsV l e]; simp
  | .e y false :: l, e => by rw [rootsV, mem_rootsV l e]; simp
structure StmOk (x : Stm) (d : Int) : Prop where
  op : 1 ≤ x.op ∧ x.op ≤ 8
  name : uN x.op = true → isName x.name = true
  nname : uN x.op = false → x.name = []
  a : uA x.op = true → chkE x.a 1 = 0
  na : uA x.op = false → absE x.a = true
  b : uB x.op = true → chkE x.b 1 = 0
  nb : uB x.op = false → absE x.b = true
  nbody : uBo x.op = false → x.body = []
  nels : uO x.op = false → x.els = []
  dep : d ≤ 12
theorem stmtS_zero {x : Stm} {d : Int} (h : stmtS x d = 0) : StmOk x d := by
  unfold stmtS at h
  split at h
  · cases h
  rename_i h1
  split at h
  · cases h
  rename_i h2
  split at h
  · rename_i h3
    simp at h3
    exact absurd h h3.2
  rename_i h3
  split at h
  · rename_i h4
    simp at h4
    exact absurd h h4.2
  rename_i h4
  split at h
  · cases h
  rename_i h5
  simp only [Bool.or_eq_true, Bool.not_eq_true', Bool.and_eq_false_iff, not_or, Bool.not_eq_false, Bool.not_eq_true] at h1
  simp only [badF, kn, Bool.and_eq_true, Bool.not_eq_true', Bool.or_eq_false_iff, Bool.and_eq_false_iff, decide_eq_true_eq, not_or] at h1 h2 h3 h4
  simp at h1 h2 h3 h4
  obtain ⟨hk, ⟨⟨⟨⟨⟨⟨b1, b2⟩, b3⟩, b4⟩, b5⟩, b6⟩, hm⟩⟩ := h1
  refine ⟨hk, h2, fun hu => ?_, h3, fun hu => ?_, h4, fun hu => ?_, fun hu => ?_, fun hu => ?_, by omega⟩
  · rcases b1 with b | b
    · rw [hu] at b; cases b
    · exact b
  · rcases b2 with b | b
    · rw [hu] at b; cases b
    · exact b
  · rcases b3 with b | b
    · rw [hu] at b; cases b
    · exact b
  · rcases b5 with b | b
    · rw [hu] at b; cases b
    · exact b
  · rcases b6 with b | b
    · rw [hu] at b; cases b
    · exact b
theorem Vld.roots {p : Pr} (h : Vld p) : ∀ e ∈ exprsS p, chkE e 1 = 0 ∧ (visE e true).length ≤ 400 := by
  intro e he
  unfold exprsS at he
  rw [h.vis, mem_rootsV] at he
  obtain ⟨y, k, h1, h2, h3⟩ := rootSs _ _ _ he
  have hs := stmtS_zero (h.stm y k h1)
  refine ⟨?_, by have := h.len; omega⟩
  rcases h2 with ⟨rfl, h2⟩ | ⟨rfl, h2⟩
  · cases hu : uA y.op with
    | true => exact hs.a hu
    | false => rw [hs.na hu] at h2; cases h2
  · cases hu : uB y.op with
    | true => exact hs.b hu
    | false => rw [hs.nb hu] at h2; cases h2
end Go.Proofs.YtjmghomnbmbjnaaGreat
set_option linter.all false
namespace Go.Proofs.YtjmghomnbmbjnaaGreat
open Go.Abs
mutual
theorem visE_falseA : ∀ (e : E), ∀ v ∈ visE e false, ∃ x, v = Vis.e x false
  | .mk op n s args, v, h => by
    simp only [visE, List.mem_cons] at h
    rcases h with h | h
    · exact ⟨_, h⟩
    · exact visEs_falseA args v h
theorem visEs_falseA : ∀ (l : List E), ∀ v ∈ visEs l, ∃ x, v = Vis.e x false
  | [], v, h => by simp [visEs] at h
  | x :: l, v, h => by
    simp only [visEs, List.mem_append] at h
    rcases h with h | h
    · exact visE_falseA x v h
    · exact visEs_falseA l v h
end
end Go.Proofs.YtjmghomnbmbjnaaGreat
set_option linter.all false
namespace Go.Proofs.YtjmghomnbmbjnaaGreat
open Go.Abs
theorem prmF_zero3 : ∀ (l pre : List Pm), prmF pre l = 0 → (∀ x ∈ l, isName x.name = true ∧ 1 ≤ x.type ∧ x.type ≤ 3) ∧ (∀ x ∈ l, ∀ y ∈ pre, y.name ≠ x.name) ∧ (l.map Pm.name).Nodup
  | [], pre, _ => by simp
  | x :: l, pre, h => by
    unfold prmF at h
    split at h
    · cases h
    rename_i h1
    split at h
    · cases h
    rename_i h2
    split at h
    · cases h
    rename_i h3
    obtain ⟨k1, k2, k3⟩ := prmF_zero3 l (pre ++ [x]) h
    simp at h1 h2 h3
    refine ⟨fun y hy => ?_, fun y hy z hz => ?_, ?_⟩
    · rcases List.mem_cons.1 hy with rfl | hy
      · exact ⟨h1, by omega, by omega⟩
      · exact k1 y hy
    · rcases List.mem_cons.1 hy with rfl | hy
      · exact h3 z hz
      · exact k2 y hy z (List.mem_append_left _ hz)
    · rw [List.map_cons, List.nodup_cons]
      refine ⟨fun hm => ?_, k3⟩
      obtain ⟨y, hy, he⟩ := List.mem_map.1 hm
      exact k2 y hy x (List.mem_append_right _ (List.mem_cons_self ..)) he.symm
theorem prmS_zero3 (l : List Pm) : prmS l = 0 ↔ (prmS l = 0 ∧ l.length ≤ 6) ∧ (∀ x ∈ l, isName x.name = true ∧ 1 ≤ x.type ∧ x.type ≤ 3) ∧ (l.map Pm.name).Nodup := by
  constructor
  · intro h
    have h0 := h
    unfold prmS at h
    split at h
    · cases h
    · rename_i h1
      obtain ⟨k1, _, k3⟩ := prmF_zero3 l [] h
      refine ⟨⟨h0, by simp at h1; omega⟩, k1, k3⟩
  · exact fun h => h.1.1
theorem Vld.stmOk3 {p : Pr} (h : Vld p) : ∀ x d, Vis.s x d ∈ visSs p.body 1 → StmOk x d := fun x d hm => stmtS_zero (h.stm x d hm)
end Go.Proofs.YtjmghomnbmbjnaaGreat
set_option linter.all false
namespace Go.Proofs.YtjmghomnbmbjnaaGreat
open Go.Abs
attribute [local congr] ite_congr
set_option maxRecDepth 10000
def sig1 (op : Int) : Bool := decide (op = 1) || decide (op = 25) || decide (op = 26) || decide (op = 27) || decide (op = 4) || decide (op = 5) || decide (op = 6) || decide (op = 7) || decide (op = 8) || decide (op = 9)
def sigW (op : Int) : Int := if sig1 op = true then 1 else if (decide (op = 2) || decide (op = 19) || decide (op = 23)) = true then 2 else if (decide (op = 16) || decide (op = 17) || decide (op = 18)) = true then 3 else if decide (op = 20) = true then 1 else 2
def sigR (op : Int) : Int := if sig1 op = true then 1 else if (decide (op = 2) || decide (op = 19) || decide (op = 23)) = true then 2 else if (decide (op = 16) || decide (op = 17) || decide (op = 18)) = true then 3 else if decide (op = 20) = true then 2 else if (decide (op = 21) || decide (op = 22)) = true then 1 else 3
theorem sigOf (op : Int) (A : AHeap) : acl C 148 [.d (.int .i64 op)] A = some (.tuple [.d (.int .i64 (sigW op)), .d (.int .i64 (sigR op))], A) := by
  rw [k_call (c := C) (f := 148) rfl Tryz.func148 rfl (ok 148 (by kernel_rfl)) rfl Tryz.ntmps148 Tryz.results148 (by simp)]
  unfold sigW sigR
  cases h1 : sig1 op with
  | true =>
    unfold sig1 at h1
    by_cases a1 : op = 1 <;> by_cases a2 : op = 25 <;> by_cases a3 : op = 26 <;> by_cases a4 : op = 27 <;> by_cases a5 : op = 4 <;> by_cases a6 : op = 5 <;> by_cases a7 : op = 6 <;> by_cases a8 : op = 7 <;> by_cases a9 : op = 8 <;> by_cases a10 : op = 9 <;> first | (exfalso; omega) | (simp (maxSteps := 1000000) only [go_sem, acondK_bool, acB_merge, Nat.reduceLT, Nat.reduceLeDiff, Nat.reduceEqDiff, Nat.reduceAdd, Nat.reduceSub, Nat.reduceMul, Nat.reduceBEq, Nat.reduceBNe, Nat.reduceBneDiff, Nat.reduceBeqDiff, Int.reduceToNat, Int.reduceLE, Int.reduceLT, Int.reduceEq, Int.reduceNe, Int.reduceNeg, Int.reduceAdd, Int.reduceSub, ↓reduceIte, reduceCtorEq, a1, a2, a3, a4, a5, a6, a7, a8, a9, a10]; done) | (exfalso; simp [a1, a2, a3, a4, a5, a6, a7, a8, a9, a10] at h1)
  | false =>
    unfold sig1 at h1
    simp only [Bool.or_eq_false_iff] at h1
    obtain ⟨⟨⟨⟨⟨⟨⟨⟨⟨h1, h2⟩, h3⟩, h4⟩, h5⟩, h6⟩, h7⟩, h8⟩, h9⟩, h10⟩ := h1
    cases b1 : decide (op = 2) with
    | true => simp (maxSteps := 1000000) only [go_sem, acondK_bool, acB_merge, Nat.reduceLT, Nat.reduceLeDiff, Nat.reduceEqDiff, Nat.reduceAdd, Nat.reduceSub, Nat.reduceMul, Nat.reduceBEq, Nat.reduceBNe, Nat.reduceBneDiff, Nat.reduceBeqDiff, Int.reduceToNat, Int.reduceLE, Int.reduceLT, Int.reduceEq, Int.reduceNe, Int.reduceNeg, Int.reduceAdd, Int.reduceSub, ↓reduceIte, reduceCtorEq, h1, h2, h3, h4, h5, h6, h7, h8, h9, h10, b1]
    | false =>
    cases b2 : decide (op = 19) with
    | true => simp (maxSteps := 1000000) only [go_sem, acondK_bool, acB_merge, Nat.reduceLT, Nat.reduceLeDiff, Nat.reduceEqDiff, Nat.reduceAdd, Nat.reduceSub, Nat.reduceMul, Nat.reduceBEq, Nat.reduceBNe, Nat.reduceBneDiff, Nat.reduceBeqDiff, Int.reduceToNat, Int.reduceLE, Int.reduceLT, Int.reduceEq, Int.reduceNe, Int.reduceNeg, Int.reduceAdd, Int.reduceSub, ↓reduceIte, reduceCtorEq, h1, h2, h3, h4, h5, h6, h7, h8, h9, h10, b1, b2]
    | false =>
    cases b3 : decide (op = 23) with
    | true => simp (maxSteps := 1000000) only [go_sem, acondK_bool, acB_merge, Nat.reduceLT, Nat.reduceLeDiff, Nat.reduceEqDiff, Nat.reduceAdd, Nat.reduceSub, Nat.reduceMul, Nat.reduceBEq, Nat.reduceBNe, Nat.reduceBneDiff, Nat.reduceBeqDiff, Int.reduceToNat, Int.reduceLE, Int.reduceLT, Int.reduceEq, Int.reduceNe, Int.reduceNeg, Int.reduceAdd, Int.reduceSub, ↓reduceIte, reduceCtorEq, h1, h2, h3, h4, h5, h6, h7, h8, h9, h10, b1, b2, b3]
    | false =>
    cases b4 : decide (op = 16) with
    | true => simp (maxSteps := 1000000) only [go_sem, acondK_bool, acB_merge, Nat.reduceLT, Nat.reduceLeDiff, Nat.reduceEqDiff, Nat.reduceAdd, Nat.reduceSub, Nat.reduceMul, Nat.reduceBEq, Nat.reduceBNe, Nat.reduceBneDiff, Nat.reduceBeqDiff, Int.reduceToNat, Int.reduceLE, Int.reduceLT, Int.reduceEq, Int.reduceNe, Int.reduceNeg, Int.reduceAdd, Int.reduceSub, ↓reduceIte, reduceCtorEq, h1, h2, h3, h4, h5, h6, h7, h8, h9, h10, b1, b2, b3, b4]
    | false =>
    cases b5 : decide (op = 17) with
    | true => simp (maxSteps := 1000000) only [go_sem, acondK_bool, acB_merge, Nat.reduceLT, Nat.reduceLeDiff, Nat.reduceEqDiff, Nat.reduceAdd, Nat.reduceSub, Nat.reduceMul, Nat.reduceBEq, Nat.reduceBNe, Nat.reduceBneDiff, Nat.reduceBeqDiff, Int.reduceToNat, Int.reduceLE, Int.reduceLT, Int.reduceEq, Int.reduceNe, Int.reduceNeg, Int.reduceAdd, Int.reduceSub, ↓reduceIte, reduceCtorEq, h1, h2, h3, h4, h5, h6, h7, h8, h9, h10, b1, b2, b3, b4, b5]
    | false =>
    cases b6 : decide (op = 18) with
    | true => simp (maxSteps := 1000000) only [go_sem, acondK_bool, acB_merge, Nat.reduceLT, Nat.reduceLeDiff, Nat.reduceEqDiff, Nat.reduceAdd, Nat.reduceSub, Nat.reduceMul, Nat.reduceBEq, Nat.reduceBNe, Nat.reduceBneDiff, Nat.reduceBeqDiff, Int.reduceToNat, Int.reduceLE, Int.reduceLT, Int.reduceEq, Int.reduceNe, Int.reduceNeg, Int.reduceAdd, Int.reduceSub, ↓reduceIte, reduceCtorEq, h1, h2, h3, h4, h5, h6, h7, h8, h9, h10, b1, b2, b3, b4, b5, b6]
    | false =>
    cases b7 : decide (op = 20) with
    | true => simp (maxSteps := 1000000) only [go_sem, acondK_bool, acB_merge, Nat.reduceLT, Nat.reduceLeDiff, Nat.reduceEqDiff, Nat.reduceAdd, Nat.reduceSub, Nat.reduceMul, Nat.reduceBEq, Nat.reduceBNe, Nat.reduceBneDiff, Nat.reduceBeqDiff, Int.reduceToNat, Int.reduceLE, Int.reduceLT, Int.reduceEq, Int.reduceNe, Int.reduceNeg, Int.reduceAdd, Int.reduceSub, ↓reduceIte, reduceCtorEq, h1, h2, h3, h4, h5, h6, h7, h8, h9, h10, b1, b2, b3, b4, b5, b6, b7]
    | false =>
    cases b8 : decide (op = 21) with
    | true => simp (maxSteps := 1000000) only [go_sem, acondK_bool, acB_merge, Nat.reduceLT, Nat.reduceLeDiff, Nat.reduceEqDiff, Nat.reduceAdd, Nat.reduceSub, Nat.reduceMul, Nat.reduceBEq, Nat.reduceBNe, Nat.reduceBneDiff, Nat.reduceBeqDiff, Int.reduceToNat, Int.reduceLE, Int.reduceLT, Int.reduceEq, Int.reduceNe, Int.reduceNeg, Int.reduceAdd, Int.reduceSub, ↓reduceIte, reduceCtorEq, h1, h2, h3, h4, h5, h6, h7, h8, h9, h10, b1, b2, b3, b4, b5, b6, b7, b8]
    | false =>
    cases b9 : decide (op = 22) with
    | true => simp (maxSteps := 1000000) only [go_sem, acondK_bool, acB_merge, Nat.reduceLT, Nat.reduceLeDiff, Nat.reduceEqDiff, Nat.reduceAdd, Nat.reduceSub, Nat.reduceMul, Nat.reduceBEq, Nat.reduceBNe, Nat.reduceBneDiff, Nat.reduceBeqDiff, Int.reduceToNat, Int.reduceLE, Int.reduceLT, Int.reduceEq, Int.reduceNe, Int.reduceNeg, Int.reduceAdd, Int.reduceSub, ↓reduceIte, reduceCtorEq, h1, h2, h3, h4, h5, h6, h7, h8, h9, h10, b1, b2, b3, b4, b5, b6, b7, b8, b9]
    | false => simp (maxSteps := 1000000) only [go_sem, acondK_bool, acB_merge, Nat.reduceLT, Nat.reduceLeDiff, Nat.reduceEqDiff, Nat.reduceAdd, Nat.reduceSub, Nat.reduceMul, Nat.reduceBEq, Nat.reduceBNe, Nat.reduceBneDiff, Nat.reduceBeqDiff, Int.reduceToNat, Int.reduceLE, Int.reduceLT, Int.reduceEq, Int.reduceNe, Int.reduceNeg, Int.reduceAdd, Int.reduceSub, ↓reduceIte, reduceCtorEq, h1, h2, h3, h4, h5, h6, h7, h8, h9, h10, b1, b2, b3, b4, b5, b6, b7, b8, b9]
def cmpS (op ty : Int) : Bool := !decide (ty = 3) || decide (op = 10) || decide (op = 11)
theorem comparedOf (op ty : Int) (A : AHeap) : acl C 147 [.d (.int .i64 op), .d (.int .i64 ty)] A = some (.d (.bool (cmpS op ty)), A) := by
  rw [k_call (c := C) (f := 147) rfl Tryz.func147 rfl (ok 147 (by kernel_rfl)) rfl Tryz.ntmps147 Tryz.results147 (by simp)]
  unfold cmpS
  cases b1 : decide (ty = 3) <;> cases b2 : decide (op = 10) <;> simp (maxSteps := 1000000) only [go_sem, acondK_bool, acB_merge, Nat.reduceLT, Nat.reduceLeDiff, Nat.reduceEqDiff, Nat.reduceAdd, Nat.reduceSub, Nat.reduceMul, Nat.reduceBEq, Nat.reduceBNe, Nat.reduceBneDiff, Nat.reduceBeqDiff, Int.reduceToNat, Int.reduceLE, Int.reduceLT, Int.reduceEq, Int.reduceNe, Int.reduceNeg, Int.reduceAdd, Int.reduceSub, ↓reduceIte, reduceCtorEq, b1, b2]
def varS (t : Option Int) : Int × Int := match t with
  | none => (0, 11)
  | some t => if (decide (t < 1) || decide (3 < t)) = true then (0, 10) else (t, 0)
def finS (op : Int) (ts : List Int) : Int × Int :=
  if (decide (10 ≤ op) && decide (op ≤ 15)) = true then (if (!decide (ts.getD 0 0 = ts.getD 1 0) || !cmpS op (ts.getD 0 0)) = true then (0, 10) else (3, 0))
  else if ts.all (fun t => decide (t = sigW op)) = true then (sigR op, 0) else (0, 10)
mutual
def ofE (lk : Bytes → Option Int) : E → Int × Int
  | .mk op n s args => if decide (op = 3) = true then varS (lk s) else ofL lk op [] args
def ofL (lk : Bytes → Option Int) (op : Int) : List Int → List E → Int × Int
  | ts, [] => finS op ts
  | ts, x :: l => if decide ((ofE lk x).2 = 0) = true then ofL lk op (ts ++ [(ofE lk x).1]) l else (0, (ofE lk x).2)
end
def iRow (n : Int) : List Dat := [.int .i64 n]
noncomputable abbrev grI (A : AHeap) (l : List Int) : AV × AHeap := agrow A 3 1 (l.map iRow)
theorem grI_append (A : AHeap) (l : List Int) (x : Int) (h : l.length ≤ 4194303) : aappend Tryz.prog 3 1 (grI A l).2 (grI A l).1 [[.int .i64 x]] = some (grI A (l ++ [x])) := by
  have := agrow_append (P := Tryz.prog) (A := A) (ty := 3) (sz := 1) (rows := l.map iRow) (src := [[.int .i64 x]]) room_3_1 (by rfl) (by simp; omega)
  rw [this]
  unfold grI
  rw [List.map_append]
  rfl
theorem growObjs {A : AHeap} {e sz : Nat} {rows : List (List Dat)} : (agrow A e sz rows).2.objs = A.objs := by
  unfold agrow
  split <;> rfl
theorem aindex_growG {A : AHeap} {e sz : Nat} {rows : List (List Dat)} {i : Nat} (h : i < rows.length) : aindex sz (agrow A e sz rows).2 (i : Nat) (agrow A e sz rows).1 = some (.eptr A.bufs.length rows.length i 0) := by
  unfold agrow
  rw [if_neg (by rintro rfl; simp at h)]
  simp [aindex, h]
theorem aload_growG {A : AHeap} {e sz n : Nat} {agg : Bool} {rows : List (List Dat)} {i : Nat} {r : List Dat} (h : rows[i]? = some r) : aload (agrow A e sz rows).2 n agg (.eptr A.bufs.length rows.length i 0) = apart (r.map .d) 0 n agg := by
  unfold agrow
  rw [if_neg (by rintro rfl; simp at h)]
  simp [aload, h]
theorem afin_growN {f : FuncId} (ho : C.own f = false) (A : AHeap) (e sz : Nat) (rows : List (List Dat)) (a b : Int) :
    afinR C f A (agrow A e sz rows).2 (some (.tuple [.d (.int .i64 a), .d (.int .i64 b)])) = some (.tuple [.d (.int .i64 a), .d (.int .i64 b)], A) := by
  simp only [afinR, Option.map_some, afinish, ho, Bool.false_eq_true, if_false]
  unfold agrow
  by_cases h1 : rows = []
  · simp only [h1, if_true, acleanR, acleanVs, acleanV, aclean]
    rw [acut_same rfl]
  · simp only [if_neg h1, acleanR, acleanVs, acleanV, aclean]
    unfold acut
    simp [AV.noptr, AV.noptr2, AV.noptr1]
end Go.Proofs.YtjmghomnbmbjnaaGreat
set_option linter.all false
namespace Go.Proofs.YtjmghomnbmbjnaaGreat
open Go.Abs
attribute [local congr] ite_congr
set_option maxRecDepth 10000
theorem chkL_mem : ∀ (l : List E) (d : Int), chkL l d = 0 → ∀ x ∈ l, chkE x d = 0
  | [], _, _, x, h => by simp at h
  | y :: l, d, h, x, hx => by
    rw [chkL_cons] at h
    rcases List.mem_cons.1 hx with rfl | hx
    · exact h.1
    · exact chkL_mem l d h.2 x hx
theorem grI_get {l : List Int} {i : Nat} {x : Int} (h : l[i]? = some x) : (l.map iRow)[i]? = some [.int .i64 x] := by
  rw [List.getElem?_map, h]; rfl
theorem typeOfE (id : Nat) (vis : NM) : ∀ e, E.Ok e → ∀ d, chkE e d = 0 → ∀ (A : AHeap), A.objs[id]? = some (.map (mi vis)) →
    acl C 145 [E.av e, .mapr id] A = some (.tuple [.d (.int .i64 (ofE vis.get e).1), .d (.int .i64 (ofE vis.get e).2)], A) := by
  intro e
  induction e using E.ind with
  | h op n s args ih =>
    intro hok d hv A hid
    rw [chkE_zero] at hv
    obtain ⟨hn, hL⟩ := hv
    have hlen := hok.fit
    have hz := nodeS_zero hn
    rw [k_call (c := C) (f := 145) rfl Tryz.func145 rfl (ok 145 (by kernel_rfl)) rfl Tryz.ntmps145 Tryz.results145 (by simp)]
    cases h3 : decide (op = 3) with
    | true =>
      simp only [ofE, h3, if_true]
      have hf := afind_mi s vis
      cases hg : vis.get s with
      | none =>
        rw [hg, Option.map_none] at hf
        simp (maxSteps := 1000000) only [go_sem, acondK_bool, acB_merge, Nat.reduceLT, Nat.reduceLeDiff, Nat.reduceEqDiff, Nat.reduceAdd, Nat.reduceSub, Nat.reduceMul, Nat.reduceBEq, Nat.reduceBNe, Nat.reduceBneDiff, Nat.reduceBeqDiff, Int.reduceToNat, Int.reduceLE, Int.reduceLT, Int.reduceEq, Int.reduceNe, Int.reduceNeg, Int.reduceAdd, Int.reduceSub, ↓reduceIte, reduceCtorEq, h3, hid, hf, varS]
      | some t =>
        rw [hg, Option.map_some] at hf
        cases ht : (decide (t < 1) || decide (3 < t)) with
        | true => simp (maxSteps := 1000000) +contextual only [go_sem, acondK_bool, acB_merge, Nat.reduceLT, Nat.reduceLeDiff, Nat.reduceEqDiff, Nat.reduceAdd, Nat.reduceSub, Nat.reduceMul, Nat.reduceBEq, Nat.reduceBNe, Nat.reduceBneDiff, Nat.reduceBeqDiff, Int.reduceToNat, Int.reduceLE, Int.reduceLT, Int.reduceEq, Int.reduceNe, Int.reduceNeg, Int.reduceAdd, Int.reduceSub, ↓reduceIte, reduceCtorEq, h3, hid, hf, varS, ht]
        | false => simp (maxSteps := 1000000) +contextual only [go_sem, acondK_bool, acB_merge, Nat.reduceLT, Nat.reduceLeDiff, Nat.reduceEqDiff, Nat.reduceAdd, Nat.reduceSub, Nat.reduceMul, Nat.reduceBEq, Nat.reduceBNe, Nat.reduceBneDiff, Nat.reduceBeqDiff, Int.reduceToNat, Int.reduceLE, Int.reduceLT, Int.reduceEq, Int.reduceNe, Int.reduceNeg, Int.reduceAdd, Int.reduceSub, ↓reduceIte, reduceCtorEq, h3, hid, hf, varS, ht]
    | false =>
    simp only [ofE, h3, Bool.false_eq_true, if_false]
    simp (maxSteps := 1000000) only [go_sem, acondK_bool, acB_merge, Nat.reduceLT, Nat.reduceLeDiff, Nat.reduceEqDiff, Nat.reduceAdd, Nat.reduceSub, Nat.reduceMul, Nat.reduceBEq, Nat.reduceBNe, Nat.reduceBneDiff, Nat.reduceBeqDiff, Int.reduceToNat, Int.reduceLE, Int.reduceLT, Int.reduceEq, Int.reduceNe, Int.reduceNeg, Int.reduceAdd, Int.reduceSub, ↓reduceIte, reduceCtorEq, h3]
    refine loop_any (fun pre => [(40, .v (.d (.int .i64 (args.length : Nat)))), (2, .box [.d (.int .i64 op), .d (.int .i64 n), .d (.str s), .d (.slice (args.map E.row))]), (39, .v (.d (.slice (args.map E.row)))), (1, .v (.mapr id)), (41, .v (.d (.int .i64 (pre.length : Nat)))), (8, .v (grI A (pre.map fun x => (ofE vis.get x).1)).1)])
      (fun pre => (grI A (pre.map fun x => (ofE vis.get x).1)).2) (fun pre suf => some (.tuple [.d (.int .i64 (ofL vis.get op (pre.map fun x => (ofE vis.get x).1) suf).1), .d (.int .i64 (ofL vis.get op (pre.map fun x => (ofE vis.get x).1) suf).2)], A)) args rfl rfl rfl ?_
    intro pre suf hl ih2
    have hb : pre.length < 9223372036854775807 := by rw [hl] at hlen; simp at hlen; omega
    cases suf with
    | cons x suf =>
      have hx : x ∈ args := by rw [hl]; simp
      have e1 := ih x hx (hok.arg x hx) _ (chkL_mem args _ hL x hx) (grI A (pre.map fun x => (ofE vis.get x).1)).2 (by rw [growObjs]; exact hid)
      have e2 := ih2 x suf rfl
      rw [List.length_append, List.length_cons, List.length_nil, List.map_append, List.map_cons, List.map_nil] at e2
      have e3 : (args.map E.row)[pre.length]? = some (E.row x) := by rw [hl]; exact map_mid
      have e4 : decide ((pre.length : Int) < (args.length : Int)) = true := by rw [hl]; simp; omega
      have e5 := grI_append A (pre.map fun x => (ofE vis.get x).1) (ofE vis.get x).1 (by rw [hl] at hlen; simp at hlen ⊢; omega)
      have e6 := fun a b => afin_growN (f := 145) rfl A 3 1 ((pre.map fun x => (ofE vis.get x).1).map iRow) a b
      rw [E.row_eq] at e3
      cases h5 : decide ((ofE vis.get x).2 = 0) with
      | true => simp (maxSteps := 1000000) only [go_sem, acondK_bool, acB_merge, Nat.reduceLT, Nat.reduceLeDiff, Nat.reduceEqDiff, Nat.reduceAdd, Nat.reduceSub, Nat.reduceMul, Nat.reduceBEq, Nat.reduceBNe, Nat.reduceBneDiff, Nat.reduceBeqDiff, Int.reduceToNat, Int.reduceLE, Int.reduceLT, Int.reduceEq, Int.reduceNe, Int.reduceNeg, Int.reduceAdd, Int.reduceSub, ↓reduceIte, reduceCtorEq, e3, e4, e1, e5, h5, ofL, e2, wrap_nat hb]
      | false => simp (maxSteps := 1000000) only [go_sem, acondK_bool, acB_merge, Nat.reduceLT, Nat.reduceLeDiff, Nat.reduceEqDiff, Nat.reduceAdd, Nat.reduceSub, Nat.reduceMul, Nat.reduceBEq, Nat.reduceBNe, Nat.reduceBneDiff, Nat.reduceBeqDiff, Int.reduceToNat, Int.reduceLE, Int.reduceLT, Int.reduceEq, Int.reduceNe, Int.reduceNeg, Int.reduceAdd, Int.reduceSub, ↓reduceIte, reduceCtorEq, e3, e4, e1, h5, ofL, e6]
    | nil =>
      rw [List.append_nil] at hl
      subst hl
      have e6 := fun a b => afin_growN (f := 145) rfl A 3 1 ((args.map fun x => (ofE vis.get x).1).map iRow) a b
      have e7 : ((args.map fun x => (ofE vis.get x).1).length : Int) = ar op := by rw [List.length_map]; exact hz.2.2.1
      have e8 : (args.map fun x => (ofE vis.get x).1).length ≤ 4194303 := by rw [List.length_map]; exact hlen
      simp only [ofL]
      generalize (args.map fun x => (ofE vis.get x).1) = ts at *
      unfold finS
      cases h6 : (decide (10 ≤ op) && decide (op ≤ 15)) with
      | true =>
        have ho : 10 ≤ op ∧ op ≤ 15 := by simpa using h6
        have h2 : ts.length = 2 := by
          have : ar op = 2 := by unfold ar; rw [if_neg (by omega), if_neg (by omega), if_neg (by omega)]
          omega
        have g6 : decide (10 ≤ op) = true := by simp; omega
        have g7 : decide (op ≤ 15) = true := by simp; omega
        obtain ⟨x, y, rfl⟩ : ∃ x y, ts = [x, y] := by
          match ts, h2 with
          | [x, y], _ => exact ⟨x, y, rfl⟩
        have i0 : aindex 1 (grI A [x, y]).2 0 (grI A [x, y]).1 = some (.eptr A.bufs.length 2 0 0) := aindex_growG (i := 0) (by simp)
        have i1 : aindex 1 (grI A [x, y]).2 1 (grI A [x, y]).1 = some (.eptr A.bufs.length 2 1 0) := aindex_growG (i := 1) (by simp)
        have l0 : ∀ nn agg, aload (grI A [x, y]).2 nn agg (.eptr A.bufs.length 2 0 0) = apart [.d (.int .i64 x)] 0 nn agg := fun nn agg => aload_growG (rows := [x, y].map iRow) (i := 0) rfl
        have l1 : ∀ nn agg, aload (grI A [x, y]).2 nn agg (.eptr A.bufs.length 2 1 0) = apart [.d (.int .i64 y)] 0 nn agg := fun nn agg => aload_growG (rows := [x, y].map iRow) (i := 1) rfl
        simp only [List.getD_cons_zero, List.getD_cons_succ]
        cases h8 : decide (x = y) with
        | false => simp (maxSteps := 1000000) only [go_sem, acondK_bool, acB_merge, Nat.reduceLT, Nat.reduceLeDiff, Nat.reduceEqDiff, Nat.reduceAdd, Nat.reduceSub, Nat.reduceMul, Nat.reduceBEq, Nat.reduceBNe, Nat.reduceBneDiff, Nat.reduceBeqDiff, Int.reduceToNat, Int.reduceLE, Int.reduceLT, Int.reduceEq, Int.reduceNe, Int.reduceNeg, Int.reduceAdd, Int.reduceSub, ↓reduceIte, reduceCtorEq, g6, g7, k_drawn_q, i0, i1, l0, l1, h8, comparedOf, e6]
        | true =>
          cases h9 : cmpS op x with
          | false => simp (maxSteps := 1000000) only [go_sem, acondK_bool, acB_merge, Nat.reduceLT, Nat.reduceLeDiff, Nat.reduceEqDiff, Nat.reduceAdd, Nat.reduceSub, Nat.reduceMul, Nat.reduceBEq, Nat.reduceBNe, Nat.reduceBneDiff, Nat.reduceBeqDiff, Int.reduceToNat, Int.reduceLE, Int.reduceLT, Int.reduceEq, Int.reduceNe, Int.reduceNeg, Int.reduceAdd, Int.reduceSub, ↓reduceIte, reduceCtorEq, g6, g7, k_drawn_q, i0, i1, l0, l1, h8, h9, comparedOf, e6]
          | true => simp (maxSteps := 1000000) only [go_sem, acondK_bool, acB_merge, Nat.reduceLT, Nat.reduceLeDiff, Nat.reduceEqDiff, Nat.reduceAdd, Nat.reduceSub, Nat.reduceMul, Nat.reduceBEq, Nat.reduceBNe, Nat.reduceBneDiff, Nat.reduceBeqDiff, Int.reduceToNat, Int.reduceLE, Int.reduceLT, Int.reduceEq, Int.reduceNe, Int.reduceNeg, Int.reduceAdd, Int.reduceSub, ↓reduceIte, reduceCtorEq, g6, g7, k_drawn_q, i0, i1, l0, l1, h8, h9, comparedOf, e6]
      | false =>
        simp only [Bool.false_eq_true, if_false]
        cases g6 : decide (10 ≤ op) with
        | false =>
          simp (maxSteps := 1000000) only [go_sem, acondK_bool, acB_merge, Nat.reduceLT, Nat.reduceLeDiff, Nat.reduceEqDiff, Nat.reduceAdd, Nat.reduceSub, Nat.reduceMul, Nat.reduceBEq, Nat.reduceBNe, Nat.reduceBneDiff, Nat.reduceBeqDiff, Int.reduceToNat, Int.reduceLE, Int.reduceLT, Int.reduceEq, Int.reduceNe, Int.reduceNeg, Int.reduceAdd, Int.reduceSub, ↓reduceIte, reduceCtorEq, g6, sigOf, alen_grow]
          refine loop_any (fun pre => [(90, .v (.d (.int .i64 (ts.length : Nat)))), (14, .v (.d (.int .i64 (sigR op)))), (89, .v (grI A ts).1), (13, .v (.d (.int .i64 (sigW op)))), (91, .v (.d (.int .i64 (pre.length : Nat))))])
            (fun _ => (grI A ts).2) (fun _ suf => some (.tuple [.d (.int .i64 (if suf.all (fun t => decide (t = sigW op)) = true then (sigR op, 0) else (0, 10) : Int × Int).1), .d (.int .i64 (if suf.all (fun t => decide (t = sigW op)) = true then (sigR op, 0) else (0, 10) : Int × Int).2)], A)) ts (by simp) rfl rfl ?_
          intro pre suf hl2 ih3
          have hb2 : pre.length < 9223372036854775807 := by rw [hl2] at e8; simp at e8; omega
          cases suf with
          | nil => rw [List.append_nil] at hl2; subst hl2; simp (maxSteps := 1000000) only [go_sem, acondK_bool, acB_merge, Nat.reduceLT, Nat.reduceLeDiff, Nat.reduceEqDiff, Nat.reduceAdd, Nat.reduceSub, Nat.reduceMul, Nat.reduceBEq, Nat.reduceBNe, Nat.reduceBneDiff, Nat.reduceBeqDiff, Int.reduceToNat, Int.reduceLE, Int.reduceLT, Int.reduceEq, Int.reduceNe, Int.reduceNeg, Int.reduceAdd, Int.reduceSub, ↓reduceIte, reduceCtorEq, e6, List.all_nil]
          | cons y suf =>
            have f2 := ih3 y suf rfl
            rw [List.length_append, List.length_cons, List.length_nil] at f2
            have f3 : (ts.map iRow)[pre.length]? = some [.int .i64 y] := grI_get (by rw [hl2]; simp)
            have f4 : decide ((pre.length : Int) < (ts.length : Int)) = true := by rw [hl2]; simp; omega
            have f5 : aindex 1 (grI A ts).2 (pre.length : Nat) (grI A ts).1 = some (.eptr A.bufs.length ts.length pre.length 0) := (aindex_growG (by rw [hl2]; simp)).trans (by rw [List.length_map])
            have f6 : ∀ nn agg, aload (grI A ts).2 nn agg (.eptr A.bufs.length ts.length pre.length 0) = apart [.d (.int .i64 y)] 0 nn agg := fun nn agg => by
              have := aload_growG (A := A) (e := 3) (sz := 1) (n := nn) (agg := agg) f3
              rw [List.length_map] at this
              exact this
            cases h9 : decide (y = sigW op) with
            | false => simp (maxSteps := 1000000) only [go_sem, acondK_bool, acB_merge, Nat.reduceLT, Nat.reduceLeDiff, Nat.reduceEqDiff, Nat.reduceAdd, Nat.reduceSub, Nat.reduceMul, Nat.reduceBEq, Nat.reduceBNe, Nat.reduceBneDiff, Nat.reduceBeqDiff, Int.reduceToNat, Int.reduceLE, Int.reduceLT, Int.reduceEq, Int.reduceNe, Int.reduceNeg, Int.reduceAdd, Int.reduceSub, ↓reduceIte, reduceCtorEq, f4, f5, f6, h9, e6, List.all_cons]
            | true => simp (maxSteps := 1000000) only [go_sem, acondK_bool, acB_merge, Nat.reduceLT, Nat.reduceLeDiff, Nat.reduceEqDiff, Nat.reduceAdd, Nat.reduceSub, Nat.reduceMul, Nat.reduceBEq, Nat.reduceBNe, Nat.reduceBneDiff, Nat.reduceBeqDiff, Int.reduceToNat, Int.reduceLE, Int.reduceLT, Int.reduceEq, Int.reduceNe, Int.reduceNeg, Int.reduceAdd, Int.reduceSub, ↓reduceIte, reduceCtorEq, f4, f5, f6, h9, f2, wrap_nat hb2, List.all_cons]
        | true =>
          have g7 : decide (op ≤ 15) = false := by rw [g6] at h6; simpa using h6
          simp (maxSteps := 1000000) only [go_sem, acondK_bool, acB_merge, Nat.reduceLT, Nat.reduceLeDiff, Nat.reduceEqDiff, Nat.reduceAdd, Nat.reduceSub, Nat.reduceMul, Nat.reduceBEq, Nat.reduceBNe, Nat.reduceBneDiff, Nat.reduceBeqDiff, Int.reduceToNat, Int.reduceLE, Int.reduceLT, Int.reduceEq, Int.reduceNe, Int.reduceNeg, Int.reduceAdd, Int.reduceSub, ↓reduceIte, reduceCtorEq, g6, g7, sigOf, alen_grow]
          refine loop_any (fun pre => [(90, .v (.d (.int .i64 (ts.length : Nat)))), (14, .v (.d (.int .i64 (sigR op)))), (89, .v (grI A ts).1), (13, .v (.d (.int .i64 (sigW op)))), (91, .v (.d (.int .i64 (pre.length : Nat))))])
            (fun _ => (grI A ts).2) (fun _ suf => some (.tuple [.d (.int .i64 (if suf.all (fun t => decide (t = sigW op)) = true then (sigR op, 0) else (0, 10) : Int × Int).1), .d (.int .i64 (if suf.all (fun t => decide (t = sigW op)) = true then (sigR op, 0) else (0, 10) : Int × Int).2)], A)) ts (by simp) rfl rfl ?_
          intro pre suf hl2 ih3
          have hb2 : pre.length < 9223372036854775807 := by rw [hl2] at e8; simp at e8; omega
          cases suf with
          | nil => rw [List.append_nil] at hl2; subst hl2; simp (maxSteps := 1000000) only [go_sem, acondK_bool, acB_merge, Nat.reduceLT, Nat.reduceLeDiff, Nat.reduceEqDiff, Nat.reduceAdd, Nat.reduceSub, Nat.reduceMul, Nat.reduceBEq, Nat.reduceBNe, Nat.reduceBneDiff, Nat.reduceBeqDiff, Int.reduceToNat, Int.reduceLE, Int.reduceLT, Int.reduceEq, Int.reduceNe, Int.reduceNeg, Int.reduceAdd, Int.reduceSub, ↓reduceIte, reduceCtorEq, e6, List.all_nil]
          | cons y suf =>
            have f2 := ih3 y suf rfl
            rw [List.length_append, List.length_cons, List.length_nil] at f2
            have f3 : (ts.map iRow)[pre.length]? = some [.int .i64 y] := grI_get (by rw [hl2]; simp)
            have f4 : decide ((pre.length : Int) < (ts.length : Int)) = true := by rw [hl2]; simp; omega
            have f5 : aindex 1 (grI A ts).2 (pre.length : Nat) (grI A ts).1 = some (.eptr A.bufs.length ts.length pre.length 0) := (aindex_growG (by rw [hl2]; simp)).trans (by rw [List.length_map])
            have f6 : ∀ nn agg, aload (grI A ts).2 nn agg (.eptr A.bufs.length ts.length pre.length 0) = apart [.d (.int .i64 y)] 0 nn agg := fun nn agg => by
              have := aload_growG (A := A) (e := 3) (sz := 1) (n := nn) (agg := agg) f3
              rw [List.length_map] at this
              exact this
            cases h9 : decide (y = sigW op) with
            | false => simp (maxSteps := 1000000) only [go_sem, acondK_bool, acB_merge, Nat.reduceLT, Nat.reduceLeDiff, Nat.reduceEqDiff, Nat.reduceAdd, Nat.reduceSub, Nat.reduceMul, Nat.reduceBEq, Nat.reduceBNe, Nat.reduceBneDiff, Nat.reduceBeqDiff, Int.reduceToNat, Int.reduceLE, Int.reduceLT, Int.reduceEq, Int.reduceNe, Int.reduceNeg, Int.reduceAdd, Int.reduceSub, ↓reduceIte, reduceCtorEq, f4, f5, f6, h9, e6, List.all_cons]
            | true => simp (maxSteps := 1000000) only [go_sem, acondK_bool, acB_merge, Nat.reduceLT, Nat.reduceLeDiff, Nat.reduceEqDiff, Nat.reduceAdd, Nat.reduceSub, Nat.reduceMul, Nat.reduceBEq, Nat.reduceBNe, Nat.reduceBneDiff, Nat.reduceBeqDiff, Int.reduceToNat, Int.reduceLE, Int.reduceLT, Int.reduceEq, Int.reduceNe, Int.reduceNeg, Int.reduceAdd, Int.reduceSub, ↓reduceIte, reduceCtorEq, f4, f5, f6, h9, f2, wrap_nat hb2, List.all_cons]
end Go.Proofs.YtjmghomnbmbjnaaGreat
set_option linter.all false
namespace Go.Proofs.YtjmghomnbmbjnaaGreat
open Go.Abs
attribute [local congr] ite_congr
set_option maxRecDepth 10000
def getP (l : List Pm) (k : Bytes) : Option Int := match l with
  | [] => none
  | x :: l => if (x.name == k) = true then some x.type else getP l k
def binS (op a b : Int) : Int := if (!decide (a = b)) = true then 0 else if (decide (4 ≤ op) && decide (op ≤ 8) && decide (a = 1)) = true then 1
  else if (decide (op = 10) || decide (op = 11) || (decide (12 ≤ op) && decide (op ≤ 15) && !decide (a = 3)) || ((decide (op = 16) || decide (op = 17)) && decide (a = 3))) = true then 3
  else if (decide (op = 19) && decide (a = 2)) = true then 2 else 0
theorem fin2 {op a b : Int} (h : ar op = 2) : finS op [a, b] = if decide (binS op a b = 0) = true then (0, 10) else (binS op a b, 0) := by
  have ho : op = 4 ∨ op = 5 ∨ op = 6 ∨ op = 7 ∨ op = 8 ∨ op = 10 ∨ op = 11 ∨ op = 12 ∨ op = 13 ∨ op = 14 ∨ op = 15 ∨ op = 16 ∨ op = 17 ∨ op = 19 := by
    unfold ar at h
    split at h
    · omega
    · split at h
      · omega
      · split at h <;> omega
  by_cases hab : a = b
  · subst hab
    rcases ho with rfl | rfl | rfl | rfl | rfl | rfl | rfl | rfl | rfl | rfl | rfl | rfl | rfl | rfl <;> simp [finS, sigW, sigR, sig1, binS, cmpS] <;> (first | done | (by_cases h1 : a = 1 <;> simp [h1]; done) | (by_cases h1 : a = 3 <;> simp [h1]; done) | (by_cases h1 : a = 2 <;> simp [h1]; done))
  · have hb0 : binS op a b = 0 := by simp [binS, hab]
    rw [hb0]
    rcases ho with rfl | rfl | rfl | rfl | rfl | rfl | rfl | rfl | rfl | rfl | rfl | rfl | rfl | rfl <;> simp [finS, sigW, sigR, sig1, hab] <;> (intro h1; omega)
end Go.Proofs.YtjmghomnbmbjnaaGreat
set_option linter.all false
namespace Go.Proofs.YtjmghomnbmbjnaaGreat
open Go.Abs
attribute [local congr] ite_congr
set_option maxRecDepth 10000
theorem get_put (k : Bytes) (t : Int) (j : Bytes) : ∀ m : NM, (m.put k t).get j = if (j == k) = true then some t else m.get j
  | [] => by simp [NM.put, NM.get]
  | (i, u) :: m => by
    have ih := get_put k t j m
    simp only [NM.put]
    by_cases h : (k == i) = true
    · have hi : k = i := by simpa using h
      subst hi
      simp only [h, if_true, NM.get]
      by_cases h2 : (j == k) = true <;> simp [h2]
    · simp only [Bool.not_eq_true] at h
      simp only [h, Bool.false_eq_true, if_false, NM.get]
      by_cases h2 : (j == i) = true
      · have h3 : (j == k) = false := by
          have : j = i := by simpa using h2
          subst this
          rw [Bool.beq_comm]; exact h
        simp [h2, h3]
      · simp only [h2, Bool.false_eq_true, if_false, ih]
def ofS (e : E) (l : List Pm) : Int × Int := if decide (chkE e 1 = 0) = true then ofE (getP l) e else (0, chkE e 1)
end Go.Proofs.YtjmghomnbmbjnaaGreat
set_option linter.all false
namespace Go.Proofs.YtjmghomnbmbjnaaGreat
open Go.Abs
attribute [local congr] ite_congr
set_option maxRecDepth 10000
theorem varS_err {t : Option Int} (h : (varS t).2 ≠ 0) : (varS t).1 = 0 := by
  unfold varS at h ⊢
  split
  · rfl
  · split
    · rfl
    · rename_i h1; simp only [h1] at h; simp at h
theorem finS_err {op : Int} {ts : List Int} (h : (finS op ts).2 ≠ 0) : (finS op ts).1 = 0 := by
  unfold finS at h ⊢
  split
  · split
    · rfl
    · rename_i h1 h2; rw [if_pos h1, if_neg h2] at h; simp at h
  · split
    · rename_i h1 h2; rw [if_neg h1, if_pos h2] at h; simp at h
    · rfl
mutual
theorem ofE_err (lk : Bytes → Option Int) : ∀ e, (ofE lk e).2 ≠ 0 → (ofE lk e).1 = 0
  | .mk op n s args, h => by
    simp only [ofE] at h ⊢
    split
    · rename_i h1; rw [if_pos h1] at h; exact varS_err h
    · rename_i h1; rw [if_neg h1] at h; exact ofL_err lk op [] args h
theorem ofL_err (lk : Bytes → Option Int) (op : Int) : ∀ ts l, (ofL lk op ts l).2 ≠ 0 → (ofL lk op ts l).1 = 0
  | ts, [], h => by simp only [ofL] at h ⊢; exact finS_err h
  | ts, x :: l, h => by
    simp only [ofL] at h ⊢
    split
    · rename_i h1; rw [if_pos h1] at h; exact ofL_err lk op _ l h
    · rfl
end
theorem varS_ok {t : Option Int} (h : (varS t).2 = 0) : 1 ≤ (varS t).1 ∧ (varS t).1 ≤ 3 ∧ t = some (varS t).1 := by
  unfold varS at h ⊢
  split
  · simp at h
  · split
    · rename_i h1; simp only [h1] at h; simp at h
    · rename_i h1; simp at h1 ⊢; omega
theorem finS_ok {op : Int} {ts : List Int} (h : (finS op ts).2 = 0) : 1 ≤ (finS op ts).1 ∧ (finS op ts).1 ≤ 3 := by
  unfold finS at h ⊢
  split
  · split
    · rename_i h1 h2; rw [if_pos h1, if_pos h2] at h; simp at h
    · simp
  · split
    · have : 1 ≤ sigR op ∧ sigR op ≤ 3 := by
        unfold sigR
        repeat' split
        all_goals omega
      exact this
    · rename_i h1 h2; rw [if_neg h1, if_neg h2] at h; simp at h
mutual
theorem ofE_ok (lk : Bytes → Option Int) : ∀ e, (ofE lk e).2 = 0 → 1 ≤ (ofE lk e).1 ∧ (ofE lk e).1 ≤ 3
  | .mk op n s args, h => by
    simp only [ofE] at h ⊢
    split
    · rename_i h1; rw [if_pos h1] at h; have := varS_ok h; omega
    · rename_i h1; rw [if_neg h1] at h; exact ofL_ok lk op [] args h
theorem ofL_ok (lk : Bytes → Option Int) (op : Int) : ∀ ts l, (ofL lk op ts l).2 = 0 → 1 ≤ (ofL lk op ts l).1 ∧ (ofL lk op ts l).1 ≤ 3
  | ts, [], h => by simp only [ofL] at h ⊢; exact finS_ok h
  | ts, x :: l, h => by
    simp only [ofL] at h ⊢
    split
    · rename_i h1; rw [if_pos h1] at h; exact ofL_ok lk op _ l h
    · rename_i h1; rw [if_neg h1] at h; simp at h1; exact absurd h h1
end
mutual
theorem ofE_mono {lk lk' : Bytes → Option Int} (hl : ∀ k t, lk k = some t → lk' k = some t) : ∀ e, (ofE lk e).2 = 0 → ofE lk' e = ofE lk e
  | .mk op n s args, h => by
    simp only [ofE] at h ⊢
    split
    · rename_i h1
      rw [if_pos h1] at h
      obtain ⟨_, _, h3⟩ := varS_ok h
      rw [hl _ _ h3, ← h3]
    · rename_i h1; rw [if_neg h1] at h; exact ofL_mono hl op [] args h
theorem ofL_mono {lk lk' : Bytes → Option Int} (hl : ∀ k t, lk k = some t → lk' k = some t) (op : Int) : ∀ ts l, (ofL lk op ts l).2 = 0 → ofL lk' op ts l = ofL lk op ts l
  | ts, [], h => rfl
  | ts, x :: l, h => by
    simp only [ofL] at h ⊢
    by_cases h1 : (ofE lk x).2 = 0
    · have hc : decide ((ofE lk x).2 = 0) = true := by simpa using h1
      rw [if_pos hc] at h
      rw [ofE_mono hl x h1, if_pos hc, if_pos hc]
      exact ofL_mono hl op _ l h
    · rw [if_neg (by simpa using h1)] at h
      exact absurd h h1
end
theorem getP_append {l m : List Pm} {k : Bytes} {t : Int} (h : getP l k = some t) : getP (l ++ m) k = some t := by
  induction l with
  | nil => simp [getP] at h
  | cons x l ih =>
    simp only [List.cons_append, getP] at h ⊢
    split
    · rename_i h1; rw [if_pos h1] at h; exact h
    · rename_i h1; rw [if_neg h1] at h; exact ih h
noncomputable def grF (A : AHeap) (e sz : Nat) (rows : List (List Dat)) (fr : Nat) : AV × AHeap :=
  if rows = [] then (.nilS, A) else (.own A.bufs.length rows.length, ⟨A.objs, A.bufs ++ [⟨e, sz, rows, fr⟩]⟩)
theorem modify_last {α : Type} (f : α → α) : ∀ (l : List α) (x : α), (l ++ [x]).modify l.length f = l ++ [f x]
  | [], x => rfl
  | y :: l, x => by simp [List.modify_succ_cons, modify_last f l x]
theorem acut_congr {A0 A0' : AHeap} (h1 : A0.objs = A0'.objs) (h2 : A0.bufs.length = A0'.bufs.length) (v : AV) (A : AHeap) : acut A0 v A = acut A0' v A := by
  unfold acut
  rw [h1, h2]
theorem acl_clean {f : FuncId} {fn : Func} {code : Code} {args args' : List AV} {A A' : AHeap} (hg : C.ext f = none) (hf : C.P.funcs[f]? = some fn) (hb : fn.body = some code) (hk : fnOk C.P f = true) (hn : args.length ≤ fn.ntmps) (hn' : args'.length ≤ fn.ntmps)
    (ho : C.own f = false) (key : acleanVs A args = (args', A')) (key' : acleanVs A' args' = (args', A')) (h1 : A.objs = A'.objs) (h2 : A.bufs.length = A'.bufs.length) : acl C f args A = acl C f args' A' := by
  rw [acl_eq hg hf hb hk hn, acl_eq hg hf hb hk hn']
  simp only [ho, Bool.false_eq_true, if_false, key, key']
  congr 1
  funext x
  have : ∀ v, afinish C f A v x.2.2 = afinish C f A' v x.2.2 := by
    intro v
    unfold afinish
    simp only [ho, Bool.false_eq_true, if_false]
    exact acut_congr h1 h2 _ _
  simp only [this]
theorem grF_len (A : AHeap) (e sz : Nat) (rows : List (List Dat)) (a b : Nat) : (grF A e sz rows a).2.bufs.length = (grF A e sz rows b).2.bufs.length := by
  unfold grF; split <;> simp
end Go.Proofs.YtjmghomnbmbjnaaGreat
