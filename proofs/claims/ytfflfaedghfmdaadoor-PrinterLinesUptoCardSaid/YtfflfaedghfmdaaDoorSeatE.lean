/- What holds of a valid procedure. -/
import Derived.Test.YtfflfaedghfmdaaDoorSeatC
import Derived.Test.YtfflfaedghfmdaaDoorSeatD
import Derived.Test.YtfflfaedghfmdaaDoorGenC
import Derived.Test.YtfflfaedghfmdaaDoorSeatA
set_option linter.unusedVariables false
set_option linter.unusedSimpArgs false
set_option linter.all false
set_option linter.deprecated false
set_option linter.all false
namespace Go.Proofs.YtfflfaedghfmdaaDoor
open Go.Abs
theorem errV_zero : ∀ (l : List Vis), errV l = 0 ↔ ∀ x d, Vis.s x d ∈ l → stmtS x d = 0
  | [] => by simp [errV]
  | .s y k :: l => by
    simp only [errV]
    by_cases h : stmtS y k = 0
    · rw [if_pos h, errV_zero l]
      constructor
      · intro hh x d hm
        rcases List.mem_cons.1 hm with hm | hm
        · injection hm with h1 h2; subst h1; subst h2; exact h
        · exact hh x d hm
      · intro hh x d hm; exact hh x d (List.mem_cons_of_mem _ hm)
    · rw [if_neg h]
      constructor
      · intro h'; exact absurd h' h
      · intro hh; exact absurd (hh y k (List.mem_cons_self ..)) h
  | .e y r :: l => by
    simp only [errV]
    rw [errV_zero l]
    constructor
    · intro hh x d hm
      rcases List.mem_cons.1 hm with hm | hm
      · cases hm
      · exact hh x d hm
    · intro hh x d hm; exact hh x d (List.mem_cons_of_mem _ hm)
structure Vld (p : Pr) : Prop where
  name : isName p.name = true
  prm : prmS p.params = 0
  stm : ∀ x d, Vis.s x d ∈ visSs p.body 1 → stmtS x d = 0
  len : (visSs p.body 1).length ≤ 400
theorem Vld.vis {p : Pr} (h : Vld p) : visP p = visSs p.body 1 := by
  unfold visP
  rw [List.take_of_length_le]
  have := h.len
  omega
theorem valS_zero (p : Pr) : valS p = 0 ↔ Vld p := by
  unfold valS
  constructor
  · intro h
    split at h
    · cases h
    rename_i h1
    split at h
    · rename_i h2
      split at h
      · rename_i h3
        split at h
        · cases h
        · rename_i h4
          have h5 : (visP p).length ≤ 400 := by simp at h4; omega
          have h6 : (visSs p.body 1).length ≤ 400 := by
            unfold visP at h5; rw [List.length_take] at h5; omega
          have h7 : visP p = visSs p.body 1 := by unfold visP; rw [List.take_of_length_le]; omega
          rw [h7] at h3
          exact ⟨by simpa using h1, h2, (errV_zero _).1 h3, h6⟩
      · rename_i h3; exact absurd h h3
    · rename_i h2; exact absurd h h2
  · intro h
    have h7 := h.vis
    rw [if_neg (by simp [h.name]), if_pos h.prm, h7, if_pos ((errV_zero _).2 h.stm), if_neg]
    have := h.len
    simp
    omega
theorem chkE_zero (op n : Int) (s : Bytes) (args : List E) (d : Int) : chkE (.mk op n s args) d = 0 ↔ nodeS op n s args.length d = 0 ∧ chkL args (IntKind.i64.wrap (d + 1)) = 0 := by
  rw [chkE]
  by_cases h : nodeS op n s args.length d = 0
  · rw [if_pos h]; exact ⟨fun h' => ⟨h, h'⟩, fun h' => h'.2⟩
  · rw [if_neg h]; exact ⟨fun h' => absurd h' h, fun h' => h'.1⟩
theorem chkL_cons (x : E) (l : List E) (d : Int) : chkL (x :: l) d = 0 ↔ chkE x d = 0 ∧ chkL l d = 0 := by
  rw [chkL]
  by_cases h : chkE x d = 0
  · rw [if_pos h]; exact ⟨fun h' => ⟨h, h'⟩, fun h' => h'.2⟩
  · rw [if_neg h]; exact ⟨fun h' => absurd h' h, fun h' => h'.1⟩
theorem isName_len {s : Bytes} (h : isName s = true) : 1 ≤ s.length ∧ s.length ≤ 16 := by
  unfold isName at h
  split at h
  · cases h
  · simp at h
    have := h.1.1.1
    simp
    omega
theorem nodeS_zero {op n d : Int} {s : Bytes} {len : Nat} (h : nodeS op n s len d = 0) : s.length ≤ 64 ∧ 0 ≤ ar op ∧ (len : Int) = ar op ∧ d ≤ 12 ∧ (op = 3 → isName s = true) := by
  unfold nodeS at h
  split at h
  · cases h
  rename_i h1
  split at h
  · cases h
  rename_i h2
  split at h
  · cases h
  rename_i h3
  split at h
  · cases h
  rename_i h4
  simp at h1 h2 h3
  refine ⟨?_, by omega, h3.2, by omega, fun ho => h2 ho⟩
  by_cases ho3 : op = 3
  · have := isName_len (h2 ho3); omega
  · by_cases ho2 : op = 2
    · have hp := h3.1.2 ho2
      unfold plainS at hp
      simp at hp
      omega
    · have := h1.2 ho2 ho3
      subst this
      simp
theorem wrap_small {n : Int} (h : -1000000 ≤ n) (h' : n ≤ 1000000) : IntKind.i64.wrap n = n := by rw [wrap_in] <;> omega
mutual
theorem cntE_le : ∀ (e : E) (d m : Int) (r : Bool), chkE e d = 0 → (visE e r).length ≤ 400 → 0 ≤ m → m ≤ 800 → 1 ≤ cntE e m ∧ cntE e m ≤ 2 * (visE e r).length
  | .mk op n s args, d, m, r, h, hl, h0, hm => by
    rw [chkE_zero] at h
    obtain ⟨hn, hL⟩ := h
    have hs := (nodeS_zero hn).1
    have ht : Int.tdiv (s.length : Int) 64 = 0 ∨ Int.tdiv (s.length : Int) 64 = 1 := by
      rw [Int.tdiv_eq_ediv_of_nonneg (by omega)]
      omega
    have he : (visE (.mk op n s args) r).length = (visEs args).length + 1 := by simp [visE]
    rw [he] at hl
    have key : ∀ k : Int, 1 ≤ k → k ≤ 2 → 1 ≤ cntL args k m ∧ cntL args k m ≤ k + 2 * (visEs args).length := fun k h1 h2 => cntL_le args _ k m 2 hL h1 h2 (by omega) h0 hm
    rw [he]
    simp only [cntE]
    rcases ht with ht | ht
    · rw [ht, wrap_small (n := 0) (by omega) (by omega), wrap_small (by omega) (by omega)]
      have := key 1 (by omega) (by omega)
      simp only [Int.add_zero]
      omega
    · rw [ht, wrap_small (n := 1) (by omega) (by omega), wrap_small (by omega) (by omega)]
      have := key 2 (by omega) (by omega)
      have e2 : (1 : Int) + 1 = 2 := rfl
      rw [e2]
      omega
theorem cntL_le : ∀ (l : List E) (d k m q : Int), chkL l d = 0 → 1 ≤ k → k ≤ q → q + 2 * (visEs l).length ≤ 802 → 0 ≤ m → m ≤ 800 → 1 ≤ cntL l k m ∧ cntL l k m ≤ k + 2 * (visEs l).length
  | [], d, k, m, q, _, hk, hq, _, _, _ => by simp [cntL, visEs]; omega
  | x :: l, d, k, m, q, h, hk, hq, hl, h0, hm => by
    rw [chkL_cons] at h
    have he : (visEs (x :: l)).length = (visE x false).length + (visEs l).length := by simp [visEs]
    rw [he] at hl ⊢
    rw [cntL]
    split
    · rename_i hkm
      have h1 := cntE_le x d (m - k) false h.1 (by omega) (by omega) (by omega)
      rw [wrap_small (n := m - k) (by omega) (by omega), wrap_small (n := k + cntE x (m - k)) (by omega) (by omega)]
      have h2 := cntL_le l d (k + cntE x (m - k)) m (q + 2 * (visE x false).length) h.2 (by omega) (by omega) (by omega) h0 hm
      omega
    · omega
end
mutual
theorem noRootE : ∀ (e : E) (x : E), ¬ Vis.e x true ∈ visE e false
  | .mk op n s args, x, h => by
    simp only [visE, List.mem_cons] at h
    rcases h with h | h
    · injection h with _ h2; cases h2
    · exact noRootEs args x h
theorem noRootEs : ∀ (l : List E) (x : E), ¬ Vis.e x true ∈ visEs l
  | [], x, h => by simp [visEs] at h
  | y :: l, x, h => by
    simp only [visEs, List.mem_append] at h
    rcases h with h | h
    · exact noRootE y x h
    · exact noRootEs l x h
end
theorem rootE {e x : E} (h : Vis.e x true ∈ visE e true) : x = e := by
  cases e
  simp only [visE, List.mem_cons] at h
  rcases h with h | h
  · injection h
  · exact absurd h (noRootEs _ _)
/-- a root is an operand of a statement that is visited -/
def RootOf (l : List Vis) (e : E) : Prop := ∃ y k, Vis.s y k ∈ l ∧ ((e = y.a ∧ absE y.a = false) ∨ (e = y.b ∧ absE y.b = false)) ∧ (visE e true).length ≤ l.length
theorem RootOf.mono {l m : List Vis} {e : E} (h : RootOf l e) (hs : ∀ v ∈ l, v ∈ m) (hl : l.length ≤ m.length) : RootOf m e := by
  obtain ⟨y, k, h1, h2, h3⟩ := h
  exact ⟨y, k, hs _ h1, h2, by omega⟩
mutual
theorem rootS : ∀ (s : Stm) (d : Int) (e : E), Vis.e e true ∈ visS s d → RootOf (visS s d) e
  | .mk op name max a b body els, d, e, h => by
    simp only [visS, List.mem_cons, List.mem_append] at h
    rcases h with h | h | h | h | h
    · cases h
    · by_cases ha : absE a = true
      · rw [if_pos ha] at h; simp at h
      · rw [if_neg ha] at h
        have := rootE h
        subst this
        refine ⟨_, d, List.mem_cons_self .., .inl ⟨rfl, by simpa using ha⟩, ?_⟩
        simp [visS, ha]
        omega
    · by_cases hb : absE b = true
      · rw [if_pos hb] at h; simp at h
      · rw [if_neg hb] at h
        have := rootE h
        subst this
        refine ⟨_, d, List.mem_cons_self .., .inr ⟨rfl, by simpa using hb⟩, ?_⟩
        simp [visS, hb]
        omega
    · refine (rootSs body _ e h).mono (fun v hv => ?_) ?_
      · simp only [visS, List.mem_cons, List.mem_append]; exact .inr (.inr (.inr (.inl hv)))
      · simp [visS]; omega
    · refine (rootSs els _ e h).mono (fun v hv => ?_) ?_
      · simp only [visS, List.mem_cons, List.mem_append]; exact .inr (.inr (.inr (.inr hv)))
      · simp [visS]; omega
theorem rootSs : ∀ (l : List Stm) (d : Int) (e : E), Vis.e e true ∈ visSs l d → RootOf (visSs l d) e
  | [], _, _, h => by simp [visSs] at h
  | y :: l, d, e, h => by
    simp only [visSs, List.mem_append] at h
    rcases h with h | h
    · refine (rootS y d e h).mono (fun v hv => ?_) ?_
      · simp only [visSs, List.mem_append]; exact .inl hv
      · simp [visSs]
    · refine (rootSs l d e h).mono (fun v hv => ?_) ?_
      · simp only [visSs, List.mem_append]; exact .inr hv
      · simp [visSs]
end
theorem mem_rootsV : ∀ (l : List Vis) (e : E), e ∈ rootsV l ↔ Vis.e e true ∈ l
  | [], e => by simp [rootsV]
  | .s y k :: l, e => by rw [rootsV, mem_rootsV l e]; simp
  | .e y true :: l, e => by rw [rootsV, List.mem_cons, mem_rootsV l e]; simp
  | .e y false :: l, e => by rw [rootsV, mem_rootsV l e]; simp
structure StmOk (x : Stm) (d : Int) : Prop where
  op : 1 ≤ x.op ∧ x.op ≤ 8
  name : uN x.op = true → isName x.name = true
  nname : uN x.op = false → x.name = []
  a : uA x.op = true → chkE x.a 1 = 0
  na : uA x.op = false → absE x.a = true
  b : uB x.op = true → chkE x.b 1 = 0
  nb : uB x.op = false → absE x.b = true
  nbody : uBo x.op = false → x.body = []
  nels : uO x.op = false → x.els = []
  dep : d ≤ 12
theorem stmtS_zero {x : Stm} {d : Int} (h : stmtS x d = 0) : StmOk x d := by
  unfold stmtS at h
  split at h
  · cases h
  rename_i h1
  split at h
  · cases h
  rename_i h2
  split at h
  · rename_i h3
    simp at h3
    exact absurd h h3.2
  rename_i h3
  split at h
  · rename_i h4
    simp at h4
    exact absurd h h4.2
  rename_i h4
  split at h
  · cases h
  rename_i h5
  simp only [Bool.or_eq_true, Bool.not_eq_true', Bool.and_eq_false_iff, not_or, Bool.not_eq_false, Bool.not_eq_true] at h1
  simp only [badF, kn, Bool.and_eq_true, Bool.not_eq_true', Bool.or_eq_false_iff, Bool.and_eq_false_iff, decide_eq_true_eq, not_or] at h1 h2 h3 h4
  simp at h1 h2 h3 h4
  obtain ⟨hk, ⟨⟨⟨⟨⟨⟨b1, b2⟩, b3⟩, b4⟩, b5⟩, b6⟩, hm⟩⟩ := h1
  refine ⟨hk, h2, fun hu => ?_, h3, fun hu => ?_, h4, fun hu => ?_, fun hu => ?_, fun hu => ?_, by omega⟩
  · rcases b1 with b | b
    · rw [hu] at b; cases b
    · exact b
  · rcases b2 with b | b
    · rw [hu] at b; cases b
    · exact b
  · rcases b3 with b | b
    · rw [hu] at b; cases b
    · exact b
  · rcases b5 with b | b
    · rw [hu] at b; cases b
    · exact b
  · rcases b6 with b | b
    · rw [hu] at b; cases b
    · exact b
theorem Vld.roots {p : Pr} (h : Vld p) : ∀ e ∈ exprsS p, chkE e 1 = 0 ∧ (visE e true).length ≤ 400 := by
  intro e he
  unfold exprsS at he
  rw [h.vis, mem_rootsV] at he
  obtain ⟨y, k, h1, h2, h3⟩ := rootSs _ _ _ he
  have hs := stmtS_zero (h.stm y k h1)
  refine ⟨?_, by have := h.len; omega⟩
  rcases h2 with ⟨rfl, h2⟩ | ⟨rfl, h2⟩
  · cases hu : uA y.op with
    | true => exact hs.a hu
    | false => rw [hs.na hu] at h2; cases h2
  · cases hu : uB y.op with
    | true => exact hs.b hu
    | false => rw [hs.nb hu] at h2; cases h2
end Go.Proofs.YtfflfaedghfmdaaDoor
set_option linter.all false
namespace Go.Proofs.YtfflfaedghfmdaaDoor
open Go.Abs
attribute [local congr] ite_congr
set_option maxRecDepth 10000
def sig1 (op : Int) : Bool := decide (op = 1) || decide (op = 25) || decide (op = 26) || decide (op = 27) || decide (op = 4) || decide (op = 5) || decide (op = 6) || decide (op = 7) || decide (op = 8) || decide (op = 9)
def sigW (op : Int) : Int := if sig1 op = true then 1 else if (decide (op = 2) || decide (op = 19) || decide (op = 23)) = true then 2 else if (decide (op = 16) || decide (op = 17) || decide (op = 18)) = true then 3 else if decide (op = 20) = true then 1 else 2
def sigR (op : Int) : Int := if sig1 op = true then 1 else if (decide (op = 2) || decide (op = 19) || decide (op = 23)) = true then 2 else if (decide (op = 16) || decide (op = 17) || decide (op = 18)) = true then 3 else if decide (op = 20) = true then 2 else if (decide (op = 21) || decide (op = 22)) = true then 1 else 3
theorem leaf2 {A : AHeap} {a b a' b' : Int} (h : a = a') (h' : b = b') : some (AV.tuple [.d (.int .i64 a), .d (.int .i64 b)], A) = some (AV.tuple [.d (.int .i64 a'), .d (.int .i64 b')], A) := by rw [h, h']
def cmpS (op ty : Int) : Bool := !decide (ty = 3) || decide (op = 10) || decide (op = 11)
/-- a variable's type -/
def varS (t : Option Int) : Int × Int := match t with
  | none => (0, 11)
  | some t => if (decide (t < 1) || decide (3 < t)) = true then (0, 10) else (t, 0)
/-- the type of a node whose operands have types -/
def finS (op : Int) (ts : List Int) : Int × Int :=
  if (decide (10 ≤ op) && decide (op ≤ 15)) = true then (if (!decide (ts.getD 0 0 = ts.getD 1 0) || !cmpS op (ts.getD 0 0)) = true then (0, 10) else (3, 0))
  else if ts.all (fun t => decide (t = sigW op)) = true then (sigR op, 0) else (0, 10)
mutual
def ofE (lk : Bytes → Option Int) : E → Int × Int
  | .mk op n s args => if decide (op = 3) = true then varS (lk s) else ofL lk op [] args
def ofL (lk : Bytes → Option Int) (op : Int) : List Int → List E → Int × Int
  | ts, [] => finS op ts
  | ts, x :: l => if decide ((ofE lk x).2 = 0) = true then ofL lk op (ts ++ [(ofE lk x).1]) l else (0, (ofE lk x).2)
end
def iRow (n : Int) : List Dat := [.int .i64 n]
noncomputable abbrev grI (A : AHeap) (l : List Int) : AV × AHeap := agrow A 3 1 (l.map iRow)
theorem growObjs {A : AHeap} {e sz : Nat} {rows : List (List Dat)} : (agrow A e sz rows).2.objs = A.objs := by
  unfold agrow
  split <;> rfl
/-- an element of a slice that has grown -/
theorem aindex_growG {A : AHeap} {e sz : Nat} {rows : List (List Dat)} {i : Nat} (h : i < rows.length) : aindex sz (agrow A e sz rows).2 (i : Nat) (agrow A e sz rows).1 = some (.eptr A.bufs.length rows.length i 0) := by
  unfold agrow
  rw [if_neg (by rintro rfl; simp at h)]
  simp [aindex, h]
theorem aload_growG {A : AHeap} {e sz n : Nat} {agg : Bool} {rows : List (List Dat)} {i : Nat} {r : List Dat} (h : rows[i]? = some r) : aload (agrow A e sz rows).2 n agg (.eptr A.bufs.length rows.length i 0) = apart (r.map .d) 0 n agg := by
  unfold agrow
  rw [if_neg (by rintro rfl; simp at h)]
  simp [aload, h]
/-- plain results: what has grown is forgotten -/
theorem afin_growN {f : FuncId} (ho : C.own f = false) (A : AHeap) (e sz : Nat) (rows : List (List Dat)) (a b : Int) :
    afinR C f A (agrow A e sz rows).2 (some (.tuple [.d (.int .i64 a), .d (.int .i64 b)])) = some (.tuple [.d (.int .i64 a), .d (.int .i64 b)], A) := by
  simp only [afinR, Option.map_some, afinish, ho, Bool.false_eq_true, if_false]
  unfold agrow
  by_cases h1 : rows = []
  · simp only [h1, if_true, acleanR, acleanVs, acleanV, aclean]
    rw [acut_same rfl]
  · simp only [if_neg h1, acleanR, acleanVs, acleanV, aclean]
    unfold acut
    simp [AV.noptr, AV.noptr2, AV.noptr1]
end Go.Proofs.YtfflfaedghfmdaaDoor
set_option linter.all false
namespace Go.Proofs.YtfflfaedghfmdaaDoor
open Go.Abs
attribute [local congr] ite_congr
set_option maxRecDepth 10000
theorem chkL_mem : ∀ (l : List E) (d : Int), chkL l d = 0 → ∀ x ∈ l, chkE x d = 0
  | [], _, _, x, h => by simp at h
  | y :: l, d, h, x, hx => by
    rw [chkL_cons] at h
    rcases List.mem_cons.1 hx with rfl | hx
    · exact h.1
    · exact chkL_mem l d h.2 x hx
theorem grI_get {l : List Int} {i : Nat} {x : Int} (h : l[i]? = some x) : (l.map iRow)[i]? = some [.int .i64 x] := by
  rw [List.getElem?_map, h]; rfl
end Go.Proofs.YtfflfaedghfmdaaDoor
set_option linter.all false
namespace Go.Proofs.YtfflfaedghfmdaaDoor
open Go.Abs
attribute [local congr] ite_congr
set_option maxRecDepth 10000
@[go_sem] theorem aindex_slice1 {i : Nat} {A : AHeap} {r : List (List Dat)} : aindex i A 1 (.d (.slice r)) = arowS i r[1]? := aindex_slice (n := 1)
/-- the type of the first variable with a name -/
def getP (l : List Pm) (k : Bytes) : Option Int := match l with
  | [] => none
  | x :: l => if (x.name == k) = true then some x.type else getP l k
def unaW (op : Int) : Int := if decide (op = 9) = true then 1 else if decide (op = 18) = true then 3 else if decide (op = 20) = true then 1 else 2
def unaR (op : Int) : Int := if decide (op = 9) = true then 1 else if decide (op = 18) = true then 3 else if decide (op = 20) = true then 2 else if (decide (op = 21) || decide (op = 22)) = true then 1 else if decide (op = 23) = true then 2 else 3
def binS (op a b : Int) : Int := if (!decide (a = b)) = true then 0 else if (decide (4 ≤ op) && decide (op ≤ 8) && decide (a = 1)) = true then 1
  else if (decide (op = 10) || decide (op = 11) || (decide (12 ≤ op) && decide (op ≤ 15) && !decide (a = 3)) || ((decide (op = 16) || decide (op = 17)) && decide (a = 3))) = true then 3
  else if (decide (op = 19) && decide (a = 2)) = true then 2 else 0
theorem fin0 {op : Int} (h : ar op = 0) (h3 : ¬ op = 3) : finS op [] = if decide (op = 2) = true then (2, 0) else (1, 0) := by
  have ho : op = 1 ∨ op = 2 ∨ op = 25 ∨ op = 26 ∨ op = 27 := by
    unfold ar at h
    split at h
    · omega
    · split at h
      · omega
      · split at h <;> omega
  rcases ho with rfl | rfl | rfl | rfl | rfl <;> rfl
theorem fin1 {op a : Int} (h : ar op = 1) : finS op [a] = if decide (a = unaW op) = true then (unaR op, 0) else (0, 10) := by
  have ho : op = 9 ∨ op = 18 ∨ op = 20 ∨ op = 21 ∨ op = 22 ∨ op = 23 ∨ op = 24 := by
    unfold ar at h
    split at h
    · omega
    · split at h
      · omega
      · split at h <;> omega
  rcases ho with rfl | rfl | rfl | rfl | rfl | rfl | rfl <;> simp [finS, sigW, sigR, sig1, unaW, unaR]
theorem fin2 {op a b : Int} (h : ar op = 2) : finS op [a, b] = if decide (binS op a b = 0) = true then (0, 10) else (binS op a b, 0) := by
  have ho : op = 4 ∨ op = 5 ∨ op = 6 ∨ op = 7 ∨ op = 8 ∨ op = 10 ∨ op = 11 ∨ op = 12 ∨ op = 13 ∨ op = 14 ∨ op = 15 ∨ op = 16 ∨ op = 17 ∨ op = 19 := by
    unfold ar at h
    split at h
    · omega
    · split at h
      · omega
      · split at h <;> omega
  by_cases hab : a = b
  · subst hab
    rcases ho with rfl | rfl | rfl | rfl | rfl | rfl | rfl | rfl | rfl | rfl | rfl | rfl | rfl | rfl <;> simp [finS, sigW, sigR, sig1, binS, cmpS] <;> (first | done | (by_cases h1 : a = 1 <;> simp [h1]; done) | (by_cases h1 : a = 3 <;> simp [h1]; done) | (by_cases h1 : a = 2 <;> simp [h1]; done))
  · have hb0 : binS op a b = 0 := by simp [binS, hab]
    rw [hb0]
    rcases ho with rfl | rfl | rfl | rfl | rfl | rfl | rfl | rfl | rfl | rfl | rfl | rfl | rfl | rfl <;> simp [finS, sigW, sigR, sig1, hab] <;> (intro h1; omega)
theorem ar_cases {op : Int} (h : 0 ≤ ar op) : ar op = 0 ∨ ar op = 1 ∨ ar op = 2 := by
  unfold ar at h ⊢
  split
  · rename_i h1; rw [if_pos h1] at h; omega
  · split
    · exact .inl rfl
    · split
      · exact .inr (.inl rfl)
      · exact .inr (.inr rfl)
theorem ar3 {op : Int} (h : ar op ≠ 0) : decide (op = 3) = false := by
  simp
  rintro rfl
  exact h rfl
end Go.Proofs.YtfflfaedghfmdaaDoor
set_option linter.all false
namespace Go.Proofs.YtfflfaedghfmdaaDoor
open Go.Abs
attribute [local congr] ite_congr
set_option maxRecDepth 10000
/-- the map of the first variables -/
def bldM (m : NM) : List Pm → NM
  | [] => m
  | x :: l => bldM (if (m.get x.name).isSome = true then m else m.put x.name x.type) l
theorem get_put (k : Bytes) (t : Int) (j : Bytes) : ∀ m : NM, (m.put k t).get j = if (j == k) = true then some t else m.get j
  | [] => by simp [NM.put, NM.get]
  | (i, u) :: m => by
    have ih := get_put k t j m
    simp only [NM.put]
    by_cases h : (k == i) = true
    · have hi : k = i := by simpa using h
      subst hi
      simp only [h, if_true, NM.get]
      by_cases h2 : (j == k) = true <;> simp [h2]
    · simp only [Bool.not_eq_true] at h
      simp only [h, Bool.false_eq_true, if_false, NM.get]
      by_cases h2 : (j == i) = true
      · have h3 : (j == k) = false := by
          have : j = i := by simpa using h2
          subst this
          rw [Bool.beq_comm]; exact h
        simp [h2, h3]
      · simp only [h2, Bool.false_eq_true, if_false, ih]
theorem bldM_get (k : Bytes) : ∀ (l : List Pm) (m : NM), (bldM m l).get k = match m.get k with
    | some t => some t
    | none => getP l k
  | [], m => by cases h : m.get k <;> simp [bldM, getP, h]
  | x :: l, m => by
    rw [bldM, bldM_get k l]
    by_cases h : (m.get x.name).isSome = true
    · rw [if_pos h]
      cases h2 : m.get k with
      | some t => rfl
      | none =>
        simp only [getP]
        rw [if_neg]
        intro e
        have : x.name = k := by simpa using e
        rw [this, h2] at h
        cases h
    · rw [if_neg h, get_put]
      by_cases h2 : (k == x.name) = true
      · have h3 : k = x.name := by simpa using h2
        subst h3
        rw [if_pos h2]
        cases h4 : m.get x.name with
        | some t => rw [h4] at h; exact absurd rfl h
        | none => simp [getP]
      · rw [if_neg h2]
        cases h4 : m.get k with
        | some t => rfl
        | none =>
          simp only [getP]
          rw [if_neg]
          rw [Bool.beq_comm]; exact h2
theorem bld_get (l : List Pm) : NM.get (bldM [] l) = getP l := by
  funext k
  rw [bldM_get]
  rfl
def ofS (e : E) (l : List Pm) : Int × Int := if decide (chkE e 1 = 0) = true then ofE (getP l) e else (0, chkE e 1)
theorem bldM_append : ∀ (l : List Pm) (m : NM) (x : Pm), bldM m (l ++ [x]) = (if ((bldM m l).get x.name).isSome = true then bldM m l else (bldM m l).put x.name x.type)
  | [], m, x => rfl
  | y :: l, m, x => by simp only [List.cons_append, bldM]; exact bldM_append l _ x
def fewS (l : List Pm) : Bool := if decide (60 < (l.length : Int)) = true then false else l.all fun x => !decide (200 < (x.name.length : Int))
end Go.Proofs.YtfflfaedghfmdaaDoor
