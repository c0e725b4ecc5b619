/- The text of valid statements is read back. -/
import Derived.Test.YtfflfaedghfmdaaDoorSeatN
import Derived.Test.YtfflfaedghfmdaaDoorSeatK
import Derived.Test.YtfflfaedghfmdaaDoorSeatL
import Derived.Test.YtfflfaedghfmdaaDoorEquals2
import Derived.Test.YtfflfaedghfmdaaDoorSeatA
set_option linter.unusedVariables false
set_option linter.unusedSimpArgs false
set_option linter.all false
set_option linter.deprecated false
set_option linter.all false
namespace Go.Proofs.YtfflfaedghfmdaaDoor
open Go.Abs
set_option maxRecDepth 100000
abbrev E0 : E := .mk 0 0 [] []
theorem abs_E0 {e : E} (h : absE e = true) : e = E0 := by
  obtain ⟨op, n, s, args⟩ := e
  simp [absE, absentS] at h
  obtain ⟨⟨⟨rfl, rfl⟩, rfl⟩, h⟩ := h
  have : args = [] := by
    cases args with
    | nil => rfl
    | cons _ _ => simp at h
  rw [this]
theorem stmt_max {x : Stm} {d : Int} (h : stmtS x d = 0) : (uM x.op = false → x.max = 0) ∧ 0 ≤ x.max := by
  have hk := (stmtS_zero h).op
  unfold stmtS at h
  split at h
  · cases h
  rename_i h1
  simp only [Bool.or_eq_true, Bool.not_eq_true', Bool.and_eq_false_iff, not_or, Bool.not_eq_false, Bool.not_eq_true] at h1
  obtain ⟨_, h2, h3⟩ := h1
  simp only [badF, Bool.or_eq_false_iff, Bool.and_eq_false_iff, Bool.not_eq_false'] at h2
  obtain ⟨⟨⟨_, h4⟩, _⟩, _⟩ := h2
  have hz : uM x.op = false → x.max = 0 := fun hu => by
    rcases h4 with h4 | h4
    · rw [hu] at h4; cases h4
    · simpa using h4
  refine ⟨hz, ?_⟩
  unfold maxOk at h3
  split at h3
  · simp at h3; omega
  split at h3
  · simp at h3; omega
  · rename_i n6 n8
    have : x.max = 0 := hz (by unfold uM; simp at n6 n8; simp [n6, n8])
    omega
/-! the reader -/
def kLet : Bytes := [108, 101, 116]
def kPut : Bytes := [112, 117, 116]
def kDel : Bytes := [100, 101, 108, 101, 116, 101]
def kIf : Bytes := [105, 102]
def kFor : Bytes := [102, 111, 114]
def kEmit : Bytes := [101, 109, 105, 116]
def kAbort : Bytes := [97, 98, 111, 114, 116]
def isElse (s : Bytes) : Bool := ([125, 32, 101, 108, 115, 101, 32, 123, 10] : Bytes).isPrefixOf s
mutual
def rdS : Nat → Nat → Bytes → Option (Stm × Bytes)
  | 0, _, _ => none
  | f + 1, d, u =>
    let s := u.drop (4 * d)
    let w := s.takeWhile partC
    let r := (s.dropWhile partC).drop 1
    if w = kLet then (rdL f 1 ((r.dropWhile partC).drop 3)).map fun x => (.mk 1 (r.takeWhile partC) 0 x.1 E0 [] [], x.2.drop 2)
    else if w = kPut then (rdL f 1 r).bind fun x => (rdL f 1 (x.2.drop 3)).map fun y => (.mk 3 [] 0 x.1 y.1 [] [], y.2.drop 2)
    else if w = kDel then (rdL f 1 r).map fun x => (.mk 4 [] 0 x.1 E0 [] [], x.2.drop 2)
    else if w = kIf then (rdL f 1 r).bind fun x => (rdB f (d + 1) (x.2.drop 3)).bind fun y =>
      if isElse (y.2.drop (4 * d)) = true then (rdB f (d + 1) ((y.2.drop (4 * d)).drop 9)).map fun z => (.mk 5 [] 0 x.1 E0 y.1 z.1, (z.2.drop (4 * d)).drop 2)
      else some (.mk 5 [] 0 x.1 E0 y.1 [], (y.2.drop (4 * d)).drop 2)
    else if w = kFor then (rdL f 1 ((r.dropWhile partC).drop 3)).bind fun x => (rdL f 1 (x.2.drop 4)).bind fun y =>
      (rdB f (d + 1) (((y.2.drop 5).dropWhile digC).drop 3)).map fun z => (.mk 6 (r.takeWhile partC) (numV ((y.2.drop 5).takeWhile digC)) x.1 y.1 z.1 [], (z.2.drop (4 * d)).drop 2)
    else if w = kEmit then (rdL f 1 r).map fun x => (.mk 7 [] 0 x.1 E0 [] [], x.2.drop 2)
    else if w = kAbort then some (.mk 8 [] (numV (r.takeWhile digC)) E0 E0 [] [], (r.dropWhile digC).drop 2)
    else (rdL f 1 (r.drop 2)).map fun x => (.mk 2 w 0 x.1 E0 [] [], x.2.drop 2)
def rdB : Nat → Nat → Bytes → Option (List Stm × Bytes)
  | 0, _, _ => none
  | f + 1, d, s => if (indS d).isPrefixOf s = true then (rdS f d s).bind fun x => (rdB f d x.2).map fun y => (x.1 :: y.1, y.2) else some ([], s)
end
def EvS (d : Nat) (s : Bytes) (x : Stm) (r : Bytes) : Prop := ∃ f0 : Nat, ∀ f : Nat, f0 ≤ f → rdS f d s = some (x, r)
def EvB (d : Nat) (s : Bytes) (l : List Stm) (r : Bytes) : Prop := ∃ f0 : Nat, ∀ f : Nat, f0 ≤ f → rdB f d s = some (l, r)
theorem drop_ind (d : Nat) (s : Bytes) : (indS d ++ s).drop (4 * d) = s := List.drop_left' (indS_len d)
theorem ends32 {p : UInt8 → Bool} (h : p 32 = false) (t : Bytes) : Ends p (32 :: t) := fun c u hc => by injection hc with hc _; subst hc; exact h
theorem line_app (d : Nat) (parts : List Bytes) (r : Bytes) : lineS d parts ++ r = indS d ++ (parts.flatten ++ 10 :: r) := by unfold lineS; simp
theorem tw_word {w : Bytes} (hw : ∀ c ∈ w, partC c = true) (t : Bytes) : (w ++ 32 :: t).takeWhile partC = w ∧ (w ++ 32 :: t).dropWhile partC = 32 :: t := tw partC w _ hw (ends32 rfl t)
/-- text, and a line's end -/
theorem read1 {e : E} (hv : chkE e 1 = 0) (r : Bytes) : EvL 1 (textS e ++ (59 :: r)) e (59 :: r) := readX ⟨1, by decide, hv⟩ (stop59 _) (rsign_head (by decide))
theorem readEq {e : E} (hv : chkE e 1 = 0) (r : Bytes) : EvL 1 (textS e ++ (32 :: 61 :: 32 :: r)) e (32 :: 61 :: 32 :: r) := readX ⟨1, by decide, hv⟩ (stop32 _) rfl
theorem readTo {e : E} (hv : chkE e 1 = 0) (r : Bytes) : EvL 1 (textS e ++ (32 :: 116 :: 111 :: 32 :: r)) e (32 :: 116 :: 111 :: 32 :: r) := readX ⟨1, by decide, hv⟩ (stop32 _) rfl
theorem readMax {e : E} (hv : chkE e 1 = 0) (r : Bytes) : EvL 1 (textS e ++ (32 :: 109 :: 97 :: 120 :: 32 :: r)) e (32 :: 109 :: 97 :: 120 :: 32 :: r) := readX ⟨1, by decide, hv⟩ (stop32 _) rfl
theorem readOpen {e : E} (hv : chkE e 1 = 0) (r : Bytes) : EvL 1 (textS e ++ (32 :: 123 :: r)) e (32 :: 123 :: r) := readX ⟨1, by decide, hv⟩ (stop32 _) rfl
theorem evS_let {d : Nat} {name : Bytes} {e : E} {r : Bytes} (hn : NameOk name) (h : chkE e 1 = 0) : EvS d (indS d ++ (kLet ++ 32 :: (name ++ 32 :: 61 :: 32 :: (textS e ++ 59 :: 10 :: r)))) (.mk 1 name 0 e E0 [] []) r := by
  obtain ⟨a, ha⟩ := read1 h (10 :: r)
  refine ⟨a + 1, fun f hf => ?_⟩
  obtain ⟨f, rfl⟩ : ∃ g, f = g + 1 := ⟨f - 1, by omega⟩
  obtain ⟨h1, h2⟩ := tw_word (w := kLet) (by decide) (name ++ 32 :: 61 :: 32 :: (textS e ++ 59 :: 10 :: r))
  obtain ⟨h3, h4⟩ := tw_word hn.part (61 :: 32 :: (textS e ++ 59 :: 10 :: r))
  rw [rdS]
  rw [drop_ind, h1, h2, List.drop_succ_cons, List.drop_zero, h3, h4, if_pos rfl]
  simp only [List.drop_succ_cons, List.drop_zero]
  rw [ha f (by omega)]
  rfl
theorem evS_put {d : Nat} {e g : E} {r : Bytes} (h : chkE e 1 = 0) (hg : chkE g 1 = 0) : EvS d (indS d ++ (kPut ++ 32 :: (textS e ++ 32 :: 61 :: 32 :: (textS g ++ 59 :: 10 :: r)))) (.mk 3 [] 0 e g [] []) r := by
  obtain ⟨a, ha⟩ := readEq h (textS g ++ 59 :: 10 :: r)
  obtain ⟨b, hb⟩ := read1 hg (10 :: r)
  refine ⟨a + b + 1, fun f hf => ?_⟩
  obtain ⟨f, rfl⟩ : ∃ g, f = g + 1 := ⟨f - 1, by omega⟩
  obtain ⟨h1, h2⟩ := tw_word (w := kPut) (by decide) (textS e ++ 32 :: 61 :: 32 :: (textS g ++ 59 :: 10 :: r))
  rw [rdS]
  rw [drop_ind, h1, h2, List.drop_succ_cons, List.drop_zero, if_neg (by decide), if_pos rfl, ha f (by omega)]
  simp only [List.drop_succ_cons, List.drop_zero, Option.bind_some]
  rw [hb f (by omega)]
  rfl
theorem evS_del {d : Nat} {e : E} {r : Bytes} (h : chkE e 1 = 0) : EvS d (indS d ++ (kDel ++ 32 :: (textS e ++ 59 :: 10 :: r))) (.mk 4 [] 0 e E0 [] []) r := by
  obtain ⟨a, ha⟩ := read1 h (10 :: r)
  refine ⟨a + 1, fun f hf => ?_⟩
  obtain ⟨f, rfl⟩ : ∃ g, f = g + 1 := ⟨f - 1, by omega⟩
  obtain ⟨h1, h2⟩ := tw_word (w := kDel) (by decide) (textS e ++ 59 :: 10 :: r)
  rw [rdS]
  rw [drop_ind, h1, h2, List.drop_succ_cons, List.drop_zero, if_neg (by decide), if_neg (by decide), if_pos rfl, ha f (by omega)]
  rfl
theorem evS_emit {d : Nat} {e : E} {r : Bytes} (h : chkE e 1 = 0) : EvS d (indS d ++ (kEmit ++ 32 :: (textS e ++ 59 :: 10 :: r))) (.mk 7 [] 0 e E0 [] []) r := by
  obtain ⟨a, ha⟩ := read1 h (10 :: r)
  refine ⟨a + 1, fun f hf => ?_⟩
  obtain ⟨f, rfl⟩ : ∃ g, f = g + 1 := ⟨f - 1, by omega⟩
  obtain ⟨h1, h2⟩ := tw_word (w := kEmit) (by decide) (textS e ++ 59 :: 10 :: r)
  rw [rdS]
  rw [drop_ind, h1, h2, List.drop_succ_cons, List.drop_zero, if_neg (by decide), if_neg (by decide), if_neg (by decide), if_neg (by decide), if_neg (by decide), if_pos rfl, ha f (by omega)]
  rfl
theorem ends59 {p : UInt8 → Bool} (h : p 59 = false) (t : Bytes) : Ends p (59 :: t) := fun c u hc => by injection hc with hc _; subst hc; exact h
theorem evS_abort {d : Nat} {n : Int} {r : Bytes} (h : 0 ≤ n) : EvS d (indS d ++ (kAbort ++ 32 :: (Lib.itoa n ++ 59 :: 10 :: r))) (.mk 8 [] n E0 E0 [] []) r := by
  refine ⟨1, fun f hf => ?_⟩
  obtain ⟨f, rfl⟩ : ∃ g, f = g + 1 := ⟨f - 1, by omega⟩
  obtain ⟨h1, h2⟩ := tw_word (w := kAbort) (by decide) (Lib.itoa n ++ 59 :: 10 :: r)
  obtain ⟨h3, h4, h5⟩ := itoa_read h (59 :: 10 :: r) (ends59 rfl _)
  rw [rdS]
  rw [drop_ind, h1, h2, List.drop_succ_cons, List.drop_zero, if_neg (by decide), if_neg (by decide), if_neg (by decide), if_neg (by decide), if_neg (by decide), if_neg (by decide), if_pos rfl, h3, h4, h5]
  rfl
theorem key_ne {s k : Bytes} (h : NameOk s) (hk : keywords.contains k = true) : s ≠ k := by
  rintro rfl
  rw [h.key] at hk
  cases hk
theorem evS_set {d : Nat} {name : Bytes} {e : E} {r : Bytes} (hn : NameOk name) (h : chkE e 1 = 0) : EvS d (indS d ++ (name ++ 32 :: 61 :: 32 :: (textS e ++ 59 :: 10 :: r))) (.mk 2 name 0 e E0 [] []) r := by
  obtain ⟨a, ha⟩ := read1 h (10 :: r)
  refine ⟨a + 1, fun f hf => ?_⟩
  obtain ⟨f, rfl⟩ : ∃ g, f = g + 1 := ⟨f - 1, by omega⟩
  obtain ⟨h1, h2⟩ := tw_word hn.part (61 :: 32 :: (textS e ++ 59 :: 10 :: r))
  rw [rdS]
  rw [drop_ind, h1, h2, List.drop_succ_cons, List.drop_zero, if_neg (key_ne hn (by decide)), if_neg (key_ne hn (by decide)), if_neg (key_ne hn (by decide)), if_neg (key_ne hn (by decide)), if_neg (key_ne hn (by decide)), if_neg (key_ne hn (by decide)), if_neg (key_ne hn (by decide))]
  simp only [List.drop_succ_cons, List.drop_zero]
  rw [ha f (by omega)]
  rfl
theorem evS_for {d : Nat} {name : Bytes} {n : Int} {e g : E} {body : List Stm} {r q : Bytes} (hn : NameOk name) (h0 : 0 ≤ n) (h : chkE e 1 = 0) (hg : chkE g 1 = 0) (hb : EvB (d + 1) q body (indS d ++ 125 :: 10 :: r)) :
    EvS d (indS d ++ (kFor ++ 32 :: (name ++ 32 :: 61 :: 32 :: (textS e ++ 32 :: 116 :: 111 :: 32 :: (textS g ++ 32 :: 109 :: 97 :: 120 :: 32 :: (Lib.itoa n ++ 32 :: 123 :: 10 :: q)))))) (.mk 6 name n e g body []) r := by
  obtain ⟨a, ha⟩ := readTo h (textS g ++ 32 :: 109 :: 97 :: 120 :: 32 :: (Lib.itoa n ++ 32 :: 123 :: 10 :: q))
  obtain ⟨b, hb'⟩ := readMax hg (Lib.itoa n ++ 32 :: 123 :: 10 :: q)
  obtain ⟨c, hc⟩ := hb
  refine ⟨a + b + c + 1, fun f hf => ?_⟩
  obtain ⟨f, rfl⟩ : ∃ g, f = g + 1 := ⟨f - 1, by omega⟩
  obtain ⟨h1, h2⟩ := tw_word (w := kFor) (by decide) (name ++ 32 :: 61 :: 32 :: (textS e ++ 32 :: 116 :: 111 :: 32 :: (textS g ++ 32 :: 109 :: 97 :: 120 :: 32 :: (Lib.itoa n ++ 32 :: 123 :: 10 :: q))))
  obtain ⟨h3, h4⟩ := tw_word hn.part (61 :: 32 :: (textS e ++ 32 :: 116 :: 111 :: 32 :: (textS g ++ 32 :: 109 :: 97 :: 120 :: 32 :: (Lib.itoa n ++ 32 :: 123 :: 10 :: q))))
  obtain ⟨h5, h6, h7⟩ := itoa_read h0 (32 :: 123 :: 10 :: q) (ends32 rfl _)
  rw [rdS]
  rw [drop_ind, h1, h2, List.drop_succ_cons, List.drop_zero, h3, h4, if_neg (by decide), if_neg (by decide), if_neg (by decide), if_neg (by decide), if_pos rfl]
  simp only [List.drop_succ_cons, List.drop_zero]
  rw [ha f (by omega)]
  simp only [List.drop_succ_cons, List.drop_zero, Option.bind_some]
  rw [hb' f (by omega)]
  simp only [List.drop_succ_cons, List.drop_zero, Option.bind_some]
  rw [h5, h6, h7]
  simp only [List.drop_succ_cons, List.drop_zero]
  rw [hc f (by omega)]
  simp only [Option.map_some, drop_ind, List.drop_succ_cons, List.drop_zero]
theorem evS_if {d : Nat} {e : E} {body : List Stm} {r q : Bytes} (h : chkE e 1 = 0) (hb : EvB (d + 1) q body (indS d ++ 125 :: 10 :: r)) : EvS d (indS d ++ (kIf ++ 32 :: (textS e ++ 32 :: 123 :: 10 :: q))) (.mk 5 [] 0 e E0 body []) r := by
  obtain ⟨a, ha⟩ := readOpen h (10 :: q)
  obtain ⟨c, hc⟩ := hb
  refine ⟨a + c + 1, fun f hf => ?_⟩
  obtain ⟨f, rfl⟩ : ∃ g, f = g + 1 := ⟨f - 1, by omega⟩
  obtain ⟨h1, h2⟩ := tw_word (w := kIf) (by decide) (textS e ++ 32 :: 123 :: 10 :: q)
  rw [rdS]
  rw [drop_ind, h1, h2, List.drop_succ_cons, List.drop_zero, if_neg (by decide), if_neg (by decide), if_neg (by decide), if_pos rfl, ha f (by omega)]
  simp only [List.drop_succ_cons, List.drop_zero, Option.bind_some]
  rw [hc f (by omega)]
  simp only [Option.bind_some, drop_ind]
  rw [if_neg (by unfold isElse; simp [List.isPrefixOf])]
  simp only [List.drop_succ_cons, List.drop_zero]
theorem evS_else {d : Nat} {e : E} {body els : List Stm} {r q t : Bytes} (h : chkE e 1 = 0) (hb : EvB (d + 1) q body (indS d ++ 125 :: 32 :: 101 :: 108 :: 115 :: 101 :: 32 :: 123 :: 10 :: t)) (he : EvB (d + 1) t els (indS d ++ 125 :: 10 :: r)) :
    EvS d (indS d ++ (kIf ++ 32 :: (textS e ++ 32 :: 123 :: 10 :: q))) (.mk 5 [] 0 e E0 body els) r := by
  obtain ⟨a, ha⟩ := readOpen h (10 :: q)
  obtain ⟨c, hc⟩ := hb
  obtain ⟨b, hb'⟩ := he
  refine ⟨a + c + b + 1, fun f hf => ?_⟩
  obtain ⟨f, rfl⟩ : ∃ g, f = g + 1 := ⟨f - 1, by omega⟩
  obtain ⟨h1, h2⟩ := tw_word (w := kIf) (by decide) (textS e ++ 32 :: 123 :: 10 :: q)
  rw [rdS]
  rw [drop_ind, h1, h2, List.drop_succ_cons, List.drop_zero, if_neg (by decide), if_neg (by decide), if_neg (by decide), if_pos rfl, ha f (by omega)]
  simp only [List.drop_succ_cons, List.drop_zero, Option.bind_some]
  rw [hc f (by omega)]
  simp only [Option.bind_some, drop_ind]
  rw [if_pos (by unfold isElse; simp [List.isPrefixOf])]
  simp only [List.drop_succ_cons, List.drop_zero]
  rw [hb' f (by omega)]
  simp only [Option.map_some, drop_ind, List.drop_succ_cons, List.drop_zero]
theorem evB_nil {d : Nat} {r : Bytes} (h : (indS d).isPrefixOf r = false) : EvB d r [] r := by
  refine ⟨1, fun f hf => ?_⟩
  obtain ⟨f, rfl⟩ : ∃ g, f = g + 1 := ⟨f - 1, by omega⟩
  rw [rdB, h, if_neg (by simp)]
theorem evB_cons {d : Nat} {s : Bytes} {x : Stm} {r : Bytes} {l : List Stm} {q : Bytes} (hs : (indS d).isPrefixOf s = true) (h : EvS d s x r) (hl : EvB d r l q) : EvB d s (x :: l) q := by
  obtain ⟨a, ha⟩ := h
  obtain ⟨b, hb⟩ := hl
  refine ⟨a + b + 1, fun f hf => ?_⟩
  obtain ⟨f, rfl⟩ : ∃ g, f = g + 1 := ⟨f - 1, by omega⟩
  rw [rdB, hs, if_pos rfl, ha f (by omega)]
  simp only [Option.bind_some]
  rw [hb f (by omega)]
  rfl
def AllZ (l : List Vis) : Prop := ∀ y k, Vis.s y k ∈ l → stmtS y k = 0
def StmB (x : Stm) (d : Nat) : Prop := ∀ r, EvS d (stS x d ++ r) x r
theorem stS_ind (x : Stm) (d : Nat) : ∃ t, stS x d = indS d ++ t := by
  obtain ⟨op, name, max, a, b, body, els⟩ := x
  rw [stS]
  unfold lineS
  repeat' split
  all_goals first | exact ⟨_, rfl⟩ | exact ⟨_, by simp only [List.append_assoc]; rfl⟩
theorem ind_pre (d : Nat) (t : Bytes) : (indS d).isPrefixOf (indS d ++ t) = true := List.isPrefixOf_iff_prefix.2 ⟨t, rfl⟩
theorem ind_shut (d : Nat) (t : Bytes) : (indS (d + 1)).isPrefixOf (indS d ++ 125 :: t) = false := by
  cases h : (indS (d + 1)).isPrefixOf (indS d ++ 125 :: t) with
  | false => rfl
  | true =>
    obtain ⟨u, hu⟩ := List.isPrefixOf_iff_prefix.1 h
    rw [indS_succ, List.append_assoc] at hu
    have := List.append_cancel_left hu
    injection this with h1 _
    revert h1
    decide
theorem blockB (l : List Stm) (d : Nat) (h : ∀ x ∈ l, StmB x (d + 1)) (t : Bytes) : EvB (d + 1) (ssS l (d + 1) ++ (indS d ++ 125 :: t)) l (indS d ++ 125 :: t) := by
  induction l with
  | nil => rw [ssS, List.nil_append]; exact evB_nil (ind_shut d t)
  | cons x l ih =>
    rw [ssS, List.append_assoc]
    refine evB_cons ?_ (h x (by simp) _) (ih fun y hy => h y (by simp [hy]))
    obtain ⟨u, hu⟩ := stS_ind x (d + 1)
    rw [hu, List.append_assoc]
    exact ind_pre _ _
theorem stmB : ∀ x : Stm, ∀ d : Nat, AllZ (visS x d) → StmB x d := by
  intro x
  induction x using Stm.ind with
  | h op name max a b body els ih1 ih2 =>
    intro d hv
    have hz := hv _ _ (vis_self _ _)
    have hs := stmtS_zero hz
    obtain ⟨hm0, hm⟩ := stmt_max hz
    obtain ⟨ho, hn, hnn, ha, hna, hb, hnb, hbo, hel, hd⟩ := hs
    simp only [Stm.op, Stm.name, Stm.a, Stm.b, Stm.body, Stm.els, Stm.max] at ho hn hnn ha hna hb hnb hbo hel hm0 hm
    have hw : IntKind.i64.wrap ((d : Int) + 1) = ((d + 1 : Nat) : Int) := by rw [wrap_in] <;> omega
    have hvb : AllZ (visSs body ((d + 1 : Nat) : Int)) := fun y k hy => hv y k (vis_body _ (by rw [hw]; exact hy))
    have hve : AllZ (visSs els ((d + 1 : Nat) : Int)) := fun y k hy => hv y k (vis_els _ (by rw [hw]; exact hy))
    have B1 := blockB body d fun y hy => ih1 y hy (d + 1) fun z k hz => hvb z k (visSs_mem hy _ _ hz)
    have B2 := blockB els d fun y hy => ih2 y hy (d + 1) fun z k hz => hve z k (visSs_mem hy _ _ hz)
    intro r
    rw [stS]
    have cases8 : op = 1 ∨ op = 2 ∨ op = 3 ∨ op = 4 ∨ op = 5 ∨ op = 6 ∨ op = 7 ∨ op = 8 := by omega
    rcases cases8 with rfl | rfl | rfl | rfl | rfl | rfl | rfl | rfl
    · rw [if_pos rfl, line_app, hm0 rfl, abs_E0 (hnb rfl), hbo rfl, hel rfl]
      simpa [kLet] using evS_let (d := d) (r := r) (nameOk (hn rfl)) (ha rfl)
    · rw [if_neg (by decide), if_pos rfl, line_app, hm0 rfl, abs_E0 (hnb rfl), hbo rfl, hel rfl]
      simpa using evS_set (d := d) (r := r) (nameOk (hn rfl)) (ha rfl)
    · rw [if_neg (by decide), if_neg (by decide), if_pos rfl, line_app, hm0 rfl, hnn rfl, hbo rfl, hel rfl]
      simpa [kPut] using evS_put (d := d) (r := r) (ha rfl) (hb rfl)
    · rw [if_neg (by decide), if_neg (by decide), if_neg (by decide), if_pos rfl, line_app, hm0 rfl, hnn rfl, abs_E0 (hnb rfl), hbo rfl, hel rfl]
      simpa [kDel] using evS_del (d := d) (r := r) (ha rfl)
    · rw [if_neg (by decide), if_neg (by decide), if_neg (by decide), if_neg (by decide), if_pos rfl, hm0 rfl, hnn rfl, abs_E0 (hnb rfl)]
      rw [List.append_assoc, line_app]
      cases els with
      | nil =>
        have h1 := evS_if (r := r) (ha rfl) (B1 (10 :: r))
        rw [if_neg (by simp), List.nil_append]
        simp only [List.append_assoc, line_app]
        simpa [kIf] using h1
      | cons y els =>
        rw [if_pos (by simp)]
        have h1 := evS_else (r := r) (ha rfl) (B1 (32 :: 101 :: 108 :: 115 :: 101 :: 32 :: 123 :: 10 :: (ssS (y :: els) (d + 1) ++ (indS d ++ 125 :: 10 :: r)))) (B2 (10 :: r))
        generalize ssS (y :: els) (d + 1) = q at *
        simp only [List.append_assoc, line_app]
        simpa [kIf] using h1
    · rw [if_neg (by decide), if_neg (by decide), if_neg (by decide), if_neg (by decide), if_neg (by decide), if_pos rfl, hel rfl]
      rw [List.append_assoc, line_app]
      have h1 := evS_for (r := r) (nameOk (hn rfl)) hm (ha rfl) (hb rfl) (B1 (10 :: r))
      simp only [List.append_assoc, line_app]
      simpa [kFor] using h1
    · rw [if_neg (by decide), if_neg (by decide), if_neg (by decide), if_neg (by decide), if_neg (by decide), if_neg (by decide), if_pos rfl, line_app, hm0 rfl, hnn rfl, abs_E0 (hnb rfl), hbo rfl, hel rfl]
      simpa [kEmit] using evS_emit (d := d) (r := r) (ha rfl)
    · rw [if_neg (by decide), if_neg (by decide), if_neg (by decide), if_neg (by decide), if_neg (by decide), if_neg (by decide), if_neg (by decide), line_app, hnn rfl, abs_E0 (hna rfl), abs_E0 (hnb rfl), hbo rfl, hel rfl]
      simpa [kAbort] using evS_abort (d := d) (r := r) hm
end Go.Proofs.YtfflfaedghfmdaaDoor
set_option linter.all false
namespace Go.Proofs.YtfflfaedghfmdaaDoor
open Go.Abs
set_option maxRecDepth 100000
def tyOf (w : Bytes) : Int := if w = tyWord 1 then 1 else if w = tyWord 2 then 2 else 3
def rdPs : Nat → Bytes → Option (List Pm × Bytes)
  | 0, _ => none
  | f + 1, s =>
    let r := (s.dropWhile partC).drop 2
    match r.dropWhile partC with
    | [] => none
    | c :: t => if c = 44 then (rdPs f (t.drop 1)).map fun x => (⟨s.takeWhile partC, tyOf (r.takeWhile partC)⟩ :: x.1, x.2) else some ([⟨s.takeWhile partC, tyOf (r.takeWhile partC)⟩], c :: t)
def rdHead (f : Nat) (s : Bytes) : Option (List Pm × Bytes) := match s with
  | [] => none
  | c :: t => if c = 41 then some ([], c :: t) else rdPs f (c :: t)
def rdPr (f : Nat) (u : Bytes) : Option Pr :=
  let s := u.drop 5
  (rdHead f ((s.dropWhile partC).drop 1)).bind fun x => (rdB f 1 (x.2.drop 4)).map fun y => ⟨s.takeWhile partC, x.1, y.1⟩
theorem joinB_two (sep x y : Bytes) (l : List Bytes) : joinB sep (x :: y :: l) = x ++ (sep ++ joinB sep (y :: l)) := by rw [joinB]; simp
structure PmW (x : Pm) : Prop where
  name : WordOk x.name
  type : 1 ≤ x.type ∧ x.type ≤ 3
theorem ty_word {t : Int} (h : 1 ≤ t ∧ t ≤ 3) : (∀ c ∈ tyWord t, partC c = true) ∧ tyOf (tyWord t) = t := by
  have : t = 1 ∨ t = 2 ∨ t = 3 := by omega
  rcases this with rfl | rfl | rfl <;> exact ⟨by decide, by decide⟩
theorem ends_of {p : UInt8 → Bool} {c : UInt8} (h : p c = false) (t : Bytes) : Ends p (c :: t) := fun d u hd => by injection hd with hd _; subst hd; exact h
theorem pm_read {x : Pm} (h : PmW x) {c : UInt8} (hc : partC c = false) (t : Bytes) :
    (pmS x ++ c :: t).takeWhile partC = x.name ∧ ((pmS x ++ c :: t).dropWhile partC).drop 2 = tyWord x.type ++ c :: t ∧
      (tyWord x.type ++ c :: t).takeWhile partC = tyWord x.type ∧ (tyWord x.type ++ c :: t).dropWhile partC = c :: t := by
  have h0 : pmS x ++ c :: t = x.name ++ 58 :: (32 :: (tyWord x.type ++ c :: t)) := by unfold pmS; simp
  obtain ⟨h1, h2⟩ := tw partC x.name (58 :: (32 :: (tyWord x.type ++ c :: t))) h.name.part (ends_of rfl _)
  obtain ⟨h3, h4⟩ := tw partC (tyWord x.type) (c :: t) (ty_word h.type).1 (ends_of hc _)
  rw [h0, h1, h2]
  exact ⟨rfl, rfl, h3, h4⟩
theorem evPs : ∀ (l : List Pm) (x : Pm) (r : Bytes), (∀ y ∈ x :: l, PmW y) → ∃ f0, ∀ f, f0 ≤ f → rdPs f (joinB [44, 32] ((x :: l).map pmS) ++ 41 :: r) = some (x :: l, 41 :: r)
  | [], x, r, h => by
    refine ⟨1, fun f hf => ?_⟩
    obtain ⟨f, rfl⟩ : ∃ g, f = g + 1 := ⟨f - 1, by omega⟩
    obtain ⟨h1, h2, h3, h4⟩ := pm_read (h x (by simp)) (c := 41) rfl r
    have hj : joinB [44, 32] (([x] : List Pm).map pmS) = pmS x := rfl
    rw [hj, rdPs]
    simp only [h2, h3, h4]
    rw [if_neg (by decide), h1, (ty_word (h x (by simp)).type).2]
  | y :: l, x, r, h => by
    obtain ⟨a, ha⟩ := evPs l y r fun z hz => h z (by simp at hz ⊢; exact .inr hz)
    refine ⟨a + 1, fun f hf => ?_⟩
    obtain ⟨f, rfl⟩ : ∃ g, f = g + 1 := ⟨f - 1, by omega⟩
    obtain ⟨h1, h2, h3, h4⟩ := pm_read (h x (by simp)) (c := 44) rfl (32 :: (joinB [44, 32] ((y :: l).map pmS) ++ 41 :: r))
    have hj : joinB [44, 32] ((x :: y :: l).map pmS) ++ 41 :: r = pmS x ++ 44 :: (32 :: (joinB [44, 32] ((y :: l).map pmS) ++ 41 :: r)) := by
      rw [List.map_cons, List.map_cons, joinB_two]
      simp
    rw [hj, rdPs]
    simp only [h2, h3, h4]
    rw [if_pos trivial, h1, (ty_word (h x (by simp)).type).2, List.drop_succ_cons, List.drop_zero, ha f (by omega)]
    rfl
theorem evHead (l : List Pm) (r : Bytes) (h : ∀ y ∈ l, PmW y) : ∃ f0, ∀ f, f0 ≤ f → rdHead f (joinB [44, 32] (l.map pmS) ++ 41 :: r) = some (l, 41 :: r) := by
  cases l with
  | nil => exact ⟨0, fun f _ => rfl⟩
  | cons x l =>
    obtain ⟨a, ha⟩ := evPs l x r h
    refine ⟨a, fun f hf => ?_⟩
    have ha := ha f hf
    obtain ⟨c, t, hct, n1, _⟩ := word_head (h x (by simp)).name
    have hx : pmS x = c :: (t ++ [58, 32] ++ tyWord x.type) := by unfold pmS; rw [hct]; rfl
    obtain ⟨u, hu⟩ : ∃ u, joinB [44, 32] ((x :: l).map pmS) ++ 41 :: r = c :: u := by
      cases l with
      | nil => exact ⟨t ++ [58, 32] ++ tyWord x.type ++ 41 :: r, by rw [List.map_cons, List.map_nil, joinB, hx, List.cons_append]⟩
      | cons y l => exact ⟨t ++ [58, 32] ++ tyWord x.type ++ ([44, 32] ++ joinB [44, 32] (pmS y :: l.map pmS)) ++ 41 :: r, by rw [List.map_cons, List.map_cons, joinB_two, hx, List.cons_append, List.cons_append]⟩
    rw [hu] at ha ⊢
    unfold rdHead
    dsimp only
    rw [if_neg n1, ha]
theorem evPr {p : Pr} (V : Vld p) : ∃ f0, ∀ f, f0 ≤ f → rdPr f (procT p) = some p := by
  have hn := nameOk V.name
  obtain ⟨_, hp⟩ := prms V
  obtain ⟨b, hb⟩ := blockB p.body 0 (fun x hx => stmB x 1 fun y k hy => V.stm y k (visSs_mem hx _ _ hy)) [10]
  obtain ⟨a, ha⟩ := evHead p.params (32 :: 123 :: 10 :: (ssS p.body 1 ++ (indS 0 ++ 125 :: [10]))) fun y hy => ⟨(nameOk (hp y hy).1).toWordOk, (hp y hy).2⟩
  refine ⟨a + b, fun f hf => ?_⟩
  have ha := ha f (by omega)
  have hb := hb f (by omega)
  have h0 : procT p = [112, 114, 111, 99, 32] ++ (p.name ++ 40 :: (joinB [44, 32] (p.params.map pmS) ++ 41 :: (32 :: 123 :: 10 :: (ssS p.body 1 ++ (indS 0 ++ 125 :: [10]))))) := by
    unfold procT headS lineS
    have : indS 0 = [] := rfl
    rw [this]
    simp
  obtain ⟨h1, h2⟩ := tw partC p.name (40 :: (joinB [44, 32] (p.params.map pmS) ++ 41 :: (32 :: 123 :: 10 :: (ssS p.body 1 ++ (indS 0 ++ 125 :: [10]))))) hn.part (ends40 _)
  unfold rdPr
  rw [h0]
  have hd : ∀ s : Bytes, ([112, 114, 111, 99, 32] ++ s : Bytes).drop 5 = s := fun s => rfl
  simp only [hd, h1, h2, List.drop_succ_cons, List.drop_zero, ha, Option.bind_some, hb, Option.map_some]
theorem procT_inj {p q : Pr} (hp : Vld p) (hq : Vld q) (h : procT p = procT q) : p = q := by
  obtain ⟨a, ha⟩ := evPr hp
  obtain ⟨b, hb⟩ := evPr hq
  have h1 := ha (a + b) (by omega)
  rw [h, hb (a + b) (by omega)] at h1
  injection h1 with h1
  exact h1.symm
/-- the same text, exactly if they are equal -/
theorem proc_same {p q : Pr} (hp : valS p = 0) (hq : valS q = 0) : (procS p == procS q) = eqP p q := by
  have e1 : procS p = procT p := by unfold procS; rw [if_pos hp]
  have e2 : procS q = procT q := by unfold procS; rw [if_pos hq]
  rw [e1, e2, Bool.eq_iff_iff, beq_iff_eq, eqP_iff]
  exact ⟨procT_inj ((valS_zero p).1 hp) ((valS_zero q).1 hq), fun h => by rw [h]⟩
theorem expr_same {x y : E} (hx : chkE x 1 = 0) (hy : chkE y 1 = 0) : (textS x == textS y) = eqE x y := by
  rw [Bool.eq_iff_iff, beq_iff_eq, eqE_iff]
  exact ⟨textS_inj hx hy, fun h => by rw [h]⟩
end Go.Proofs.YtfflfaedghfmdaaDoor
set_option linter.all false
namespace Go.Proofs.YtfflfaedghfmdaaDoor
open Go.Abs
attribute [local congr] ite_congr
set_option maxRecDepth 100000
def arrE (x y : E) : AV := .agg [.d (.int .i64 x.op), .d (.int .i64 x.n), .d (.str x.s), .d (.slice (x.args.map E.row)), .d (.int .i64 y.op), .d (.int .i64 y.n), .d (.str y.s), .d (.slice (y.args.map E.row))]
def stmE (x : E) : Stm := .mk 0 [] 0 x E0 [] []
def prE (x : E) : Pr := ⟨[], [], [stmE x]⟩
theorem i64_0 : i64 0 := by constructor <;> decide
theorem E0_ok : E0.Ok := .mk 0 0 [] [] i64_0 i64_0 (by simp) (by simp) (by simp) (fun x hx => by cases hx)
theorem prE_ok {x : E} (h : x.Ok) : (prE x).Ok := by
  refine ⟨by simp [prE], by simp [prE], (fun y hy => by cases hy), by simp [prE], ?_, by simp [prE], by simp [prE]⟩
  intro y hy
  simp only [prE, List.mem_singleton] at hy
  subst hy
  exact .mk 0 [] 0 x E0 [] [] i64_0 i64_0 (by simp) h E0_ok (by simp) (by simp) (by simp) (by simp) (fun x hx => by cases hx) (fun x hx => by cases hx)
theorem prE_same (x y : E) : eqP (prE x) (prE y) = eqE x y := by
  rw [Bool.eq_iff_iff, eqP_iff, eqE_iff]
  constructor
  · intro h
    simp only [prE, stmE, Pr.mk.injEq, List.cons.injEq, Stm.mk.injEq] at h
    simp at h
    exact h
  · rintro rfl
    rfl
abbrev rwS (x : E) : List Dat := [.int .i64 0, .str [], .int .i64 0, .int .i64 x.op, .int .i64 x.n, .str x.s, .slice (x.args.map E.row), .int .i64 0, .int .i64 0, .str [], .slice [], .slice [], .slice []]
theorem stmE_row (x : E) : (stmE x).row = rwS x := by rw [Stm.row_eq]; rfl
theorem full_cleanN (A : AHeap) (a : Dat) (r1 r2 : List (List Dat)) : acleanVs A [.agg [.d a, .nilS, .full r1], .agg [.d a, .nilS, .full r2]] = ([.agg [.d a, .d (.slice []), .d (.slice r1)], .agg [.d a, .d (.slice []), .d (.slice r2)]], A) := by rfl
theorem acut_congrC {A0 A0' : AHeap} (h1 : A0.objs = A0'.objs) (h2 : A0.bufs.length = A0'.bufs.length) (v : AV) (A : AHeap) : acut A0 v A = acut A0' v A := by
  unfold acut
  rw [h1, h2]
/-- a call takes its arguments cleaned -/
theorem acl_cleanC {f : FuncId} {fn : Func} {code : Code} {args args' : List AV} {A A' : AHeap} (hg : C.ext f = none) (hf : C.P.funcs[f]? = some fn) (hb : fn.body = some code) (hk : fnOk C.P f = true) (hn : args.length ≤ fn.ntmps) (hn' : args'.length ≤ fn.ntmps)
    (ho : C.own f = false) (key : acleanVs A args = (args', A')) (key' : acleanVs A' args' = (args', A')) (h1 : A.objs = A'.objs) (h2 : A.bufs.length = A'.bufs.length) : acl C f args A = acl C f args' A' := by
  rw [acl_eq hg hf hb hk hn, acl_eq hg hf hb hk hn']
  simp only [ho, Bool.false_eq_true, if_false, key, key']
  congr 1
  funext x
  have : ∀ v, afinish C f A v x.2.2 = afinish C f A' v x.2.2 := by
    intro v
    unfold afinish
    simp only [ho, Bool.false_eq_true, if_false]
    exact acut_congrC h1 h2 _ _
  simp only [this]
theorem equalW {x y : E} (hx : x.Ok) (hy : y.Ok) (A : AHeap) : acl C 10 [.agg [.d (.str []), .nilS, .full [rwS x]], .agg [.d (.str []), .nilS, .full [rwS y]]] A = some (.d (.bool (eqE x y)), A) := by
  have h := equalR (prE x) (prE y) (prE_ok hx) (prE_ok hy) A
  rw [prE_same] at h
  have a1 : ∀ z, Pr.av (prE z) = .agg [.d (.str []), .d (.slice []), .d (.slice [rwS z])] := fun z => by
    rw [← stmE_row]; rfl
  rw [a1, a1] at h
  rw [← h]
  exact acl_cleanC rfl Tryd.func10 rfl (ok 10 (by kernel_rfl)) (by rw [Tryd.ntmps10]; simp) (by rw [Tryd.ntmps10]; simp) rfl (full_cleanN ..) rfl rfl rfl
@[go_sem] theorem aindex2 {env : AEnv} {A : AHeap} {x : Operand} {k : IntKind} {n : Int} : aindexK C.noesc env A 29 x (some (.d (.int k n))) = aindexP n 2 4 A (aplace env x) := aindexK_array (c := C.noesc) arr_29
@[go_sem high] theorem aindexP0 {A : AHeap} {s o : Nat} : aindexP 0 2 4 A (some (s, o)) = some (.place s o, A) := by rfl
@[go_sem high] theorem aindexP1 {A : AHeap} {s o : Nat} : aindexP 1 2 4 A (some (s, o)) = some (.place s (o + 4), A) := by rfl
set_option maxHeartbeats 4000000 in
theorem lawPrinterDistinct (p q : Pr) (x y : E) (hp : p.Ok) (hq : q.Ok) (hx : x.Ok) (hy : y.Ok) (A : AHeap) : acl C 3 [Pr.av p, Pr.av q, arrE x y] A = some (.d (.bool true), A) := by
  have wk := works A
  have v1 := validate p hp A
  have v2 := validate q hq A
  have t1 := procP p hp A
  have t2 := procP q hq A
  have e1 := equalR p q hp hq A
  have u1 := validExpr x hx A
  have u2 := validExpr y hy A
  have e2 := equalW hx hy A
  have x1 := exprT x hx A
  have x2 := exprT y hy A
  unfold arrE
  rw [k_call (c := C) (f := 3) rfl Tryd.func3 rfl (ok 3 (by kernel_rfl)) rfl Tryd.ntmps3 Tryd.results3 (by simp)]
  have A1 : valS p = 0 → valS q = 0 → (procS p == procS q) = eqP p q := proc_same
  have A2 : chkE x 1 = 0 → chkE y 1 = 0 → (exprS x == exprS y) = eqE x y := fun h1 h2 => by
    have e1 : exprS x = textS x := by unfold exprS; rw [if_pos h1]
    have e2 : exprS y = textS y := by unfold exprS; rw [if_pos h2]
    rw [e1, e2]
    exact expr_same h1 h2
  generalize procS p = P1 at *
  generalize procS q = P2 at *
  generalize exprS x = X1 at *
  generalize exprS y = X2 at *
  cases h1 : decide (valS p = 0) with
  | false =>
    simp (maxSteps := 1000000) only [go_sem, acondK_bool, acB_merge, Nat.reduceLT, Nat.reduceLeDiff, Nat.reduceEqDiff, Nat.reduceAdd, Nat.reduceSub, Nat.reduceMul, Nat.reduceBEq, Nat.reduceBNe, Nat.reduceBneDiff, Nat.reduceBeqDiff, Int.reduceToNat, Int.reduceLE, Int.reduceLT, Int.reduceEq, Int.reduceNe, Int.reduceNeg, Int.reduceAdd, Int.reduceSub, ↓reduceIte, reduceCtorEq, v1, h1, k_drawn_q (id := 1), k_drawn_t (id := 3)]
    refine Eq.trans (ctE_ok (by repeat (first | exact MLe.nil | apply MLe.qq | apply MLe.q | apply MLe.o | apply MLe.b | apply MLe.l)) (by kernel_rfl)) ?_
    cases h3 : decide (chkE x 1 = 0) with
    | false => simp (maxSteps := 1000000) only [go_sem, acondK_bool, acB_merge, Nat.reduceLT, Nat.reduceLeDiff, Nat.reduceEqDiff, Nat.reduceAdd, Nat.reduceSub, Nat.reduceMul, Nat.reduceBEq, Nat.reduceBNe, Nat.reduceBneDiff, Nat.reduceBeqDiff, Int.reduceToNat, Int.reduceLE, Int.reduceLT, Int.reduceEq, Int.reduceNe, Int.reduceNeg, Int.reduceAdd, Int.reduceSub, ↓reduceIte, reduceCtorEq, u1, h3, k_drawn_q (id := 4), wk]
    | true =>
    cases h4 : decide (chkE y 1 = 0) with
    | false => simp (maxSteps := 1000000) only [go_sem, acondK_bool, acB_merge, Nat.reduceLT, Nat.reduceLeDiff, Nat.reduceEqDiff, Nat.reduceAdd, Nat.reduceSub, Nat.reduceMul, Nat.reduceBEq, Nat.reduceBNe, Nat.reduceBneDiff, Nat.reduceBeqDiff, Int.reduceToNat, Int.reduceLE, Int.reduceLT, Int.reduceEq, Int.reduceNe, Int.reduceNeg, Int.reduceAdd, Int.reduceSub, ↓reduceIte, reduceCtorEq, u1, u2, h3, h4, k_drawn_q (id := 4), wk]
    | true =>
    have A3 := A2 (of_decide_eq_true h3) (of_decide_eq_true h4)
    cases h6 : eqE x y with
    | true =>
      rw [h6] at A3 e2
      simp (maxSteps := 1000000) only [go_sem, acondK_bool, acB_merge, Nat.reduceLT, Nat.reduceLeDiff, Nat.reduceEqDiff, Nat.reduceAdd, Nat.reduceSub, Nat.reduceMul, Nat.reduceBEq, Nat.reduceBNe, Nat.reduceBneDiff, Nat.reduceBeqDiff, Int.reduceToNat, Int.reduceLE, Int.reduceLT, Int.reduceEq, Int.reduceNe, Int.reduceNeg, Int.reduceAdd, Int.reduceSub, ↓reduceIte, reduceCtorEq, u1, u2, h3, h4, k_drawn_q (id := 4), x1, x2, A3, e2, wk]
    | false =>
      rw [h6] at A3 e2
      simp (maxSteps := 1000000) only [go_sem, acondK_bool, acB_merge, Nat.reduceLT, Nat.reduceLeDiff, Nat.reduceEqDiff, Nat.reduceAdd, Nat.reduceSub, Nat.reduceMul, Nat.reduceBEq, Nat.reduceBNe, Nat.reduceBneDiff, Nat.reduceBeqDiff, Int.reduceToNat, Int.reduceLE, Int.reduceLT, Int.reduceEq, Int.reduceNe, Int.reduceNeg, Int.reduceAdd, Int.reduceSub, ↓reduceIte, reduceCtorEq, u1, u2, h3, h4, k_drawn_q (id := 4), x1, x2, A3, e2, wk]
  | true =>
  cases h2 : decide (valS q = 0) with
  | false =>
    simp (maxSteps := 1000000) only [go_sem, acondK_bool, acB_merge, Nat.reduceLT, Nat.reduceLeDiff, Nat.reduceEqDiff, Nat.reduceAdd, Nat.reduceSub, Nat.reduceMul, Nat.reduceBEq, Nat.reduceBNe, Nat.reduceBneDiff, Nat.reduceBeqDiff, Int.reduceToNat, Int.reduceLE, Int.reduceLT, Int.reduceEq, Int.reduceNe, Int.reduceNeg, Int.reduceAdd, Int.reduceSub, ↓reduceIte, reduceCtorEq, v1, v2, h1, h2, k_drawn_q (id := 1), k_drawn_t (id := 3)]
    refine Eq.trans (ctE_ok (by repeat (first | exact MLe.nil | apply MLe.qq | apply MLe.q | apply MLe.o | apply MLe.b | apply MLe.l)) (by kernel_rfl)) ?_
    cases h3 : decide (chkE x 1 = 0) with
    | false => simp (maxSteps := 1000000) only [go_sem, acondK_bool, acB_merge, Nat.reduceLT, Nat.reduceLeDiff, Nat.reduceEqDiff, Nat.reduceAdd, Nat.reduceSub, Nat.reduceMul, Nat.reduceBEq, Nat.reduceBNe, Nat.reduceBneDiff, Nat.reduceBeqDiff, Int.reduceToNat, Int.reduceLE, Int.reduceLT, Int.reduceEq, Int.reduceNe, Int.reduceNeg, Int.reduceAdd, Int.reduceSub, ↓reduceIte, reduceCtorEq, u1, h3, k_drawn_q (id := 4), wk]
    | true =>
    cases h4 : decide (chkE y 1 = 0) with
    | false => simp (maxSteps := 1000000) only [go_sem, acondK_bool, acB_merge, Nat.reduceLT, Nat.reduceLeDiff, Nat.reduceEqDiff, Nat.reduceAdd, Nat.reduceSub, Nat.reduceMul, Nat.reduceBEq, Nat.reduceBNe, Nat.reduceBneDiff, Nat.reduceBeqDiff, Int.reduceToNat, Int.reduceLE, Int.reduceLT, Int.reduceEq, Int.reduceNe, Int.reduceNeg, Int.reduceAdd, Int.reduceSub, ↓reduceIte, reduceCtorEq, u1, u2, h3, h4, k_drawn_q (id := 4), wk]
    | true =>
    have A3 := A2 (of_decide_eq_true h3) (of_decide_eq_true h4)
    cases h6 : eqE x y with
    | true =>
      rw [h6] at A3 e2
      simp (maxSteps := 1000000) only [go_sem, acondK_bool, acB_merge, Nat.reduceLT, Nat.reduceLeDiff, Nat.reduceEqDiff, Nat.reduceAdd, Nat.reduceSub, Nat.reduceMul, Nat.reduceBEq, Nat.reduceBNe, Nat.reduceBneDiff, Nat.reduceBeqDiff, Int.reduceToNat, Int.reduceLE, Int.reduceLT, Int.reduceEq, Int.reduceNe, Int.reduceNeg, Int.reduceAdd, Int.reduceSub, ↓reduceIte, reduceCtorEq, u1, u2, h3, h4, k_drawn_q (id := 4), x1, x2, A3, e2, wk]
    | false =>
      rw [h6] at A3 e2
      simp (maxSteps := 1000000) only [go_sem, acondK_bool, acB_merge, Nat.reduceLT, Nat.reduceLeDiff, Nat.reduceEqDiff, Nat.reduceAdd, Nat.reduceSub, Nat.reduceMul, Nat.reduceBEq, Nat.reduceBNe, Nat.reduceBneDiff, Nat.reduceBeqDiff, Int.reduceToNat, Int.reduceLE, Int.reduceLT, Int.reduceEq, Int.reduceNe, Int.reduceNeg, Int.reduceAdd, Int.reduceSub, ↓reduceIte, reduceCtorEq, u1, u2, h3, h4, k_drawn_q (id := 4), x1, x2, A3, e2, wk]
  | true =>
  have A4 := A1 (of_decide_eq_true h1) (of_decide_eq_true h2)
  cases h5 : eqP p q with
  | true =>
    rw [h5] at A4 e1
    simp (maxSteps := 1000000) only [go_sem, acondK_bool, acB_merge, Nat.reduceLT, Nat.reduceLeDiff, Nat.reduceEqDiff, Nat.reduceAdd, Nat.reduceSub, Nat.reduceMul, Nat.reduceBEq, Nat.reduceBNe, Nat.reduceBneDiff, Nat.reduceBeqDiff, Int.reduceToNat, Int.reduceLE, Int.reduceLT, Int.reduceEq, Int.reduceNe, Int.reduceNeg, Int.reduceAdd, Int.reduceSub, ↓reduceIte, reduceCtorEq, v1, v2, h1, h2, t1, t2, A4, e1, k_drawn_q (id := 1), k_drawn_t (id := 3)]
    refine Eq.trans (ctE_ok (by repeat (first | exact MLe.nil | apply MLe.qq | apply MLe.q | apply MLe.o | apply MLe.b | apply MLe.l)) (by kernel_rfl)) ?_
    cases h3 : decide (chkE x 1 = 0) with
    | false => simp (maxSteps := 1000000) only [go_sem, acondK_bool, acB_merge, Nat.reduceLT, Nat.reduceLeDiff, Nat.reduceEqDiff, Nat.reduceAdd, Nat.reduceSub, Nat.reduceMul, Nat.reduceBEq, Nat.reduceBNe, Nat.reduceBneDiff, Nat.reduceBeqDiff, Int.reduceToNat, Int.reduceLE, Int.reduceLT, Int.reduceEq, Int.reduceNe, Int.reduceNeg, Int.reduceAdd, Int.reduceSub, ↓reduceIte, reduceCtorEq, u1, h3, k_drawn_q (id := 4), wk]
    | true =>
    cases h4 : decide (chkE y 1 = 0) with
    | false => simp (maxSteps := 1000000) only [go_sem, acondK_bool, acB_merge, Nat.reduceLT, Nat.reduceLeDiff, Nat.reduceEqDiff, Nat.reduceAdd, Nat.reduceSub, Nat.reduceMul, Nat.reduceBEq, Nat.reduceBNe, Nat.reduceBneDiff, Nat.reduceBeqDiff, Int.reduceToNat, Int.reduceLE, Int.reduceLT, Int.reduceEq, Int.reduceNe, Int.reduceNeg, Int.reduceAdd, Int.reduceSub, ↓reduceIte, reduceCtorEq, u1, u2, h3, h4, k_drawn_q (id := 4), wk]
    | true =>
    have A3 := A2 (of_decide_eq_true h3) (of_decide_eq_true h4)
    cases h6 : eqE x y with
    | true =>
      rw [h6] at A3 e2
      simp (maxSteps := 1000000) only [go_sem, acondK_bool, acB_merge, Nat.reduceLT, Nat.reduceLeDiff, Nat.reduceEqDiff, Nat.reduceAdd, Nat.reduceSub, Nat.reduceMul, Nat.reduceBEq, Nat.reduceBNe, Nat.reduceBneDiff, Nat.reduceBeqDiff, Int.reduceToNat, Int.reduceLE, Int.reduceLT, Int.reduceEq, Int.reduceNe, Int.reduceNeg, Int.reduceAdd, Int.reduceSub, ↓reduceIte, reduceCtorEq, u1, u2, h3, h4, k_drawn_q (id := 4), x1, x2, A3, e2, wk]
    | false =>
      rw [h6] at A3 e2
      simp (maxSteps := 1000000) only [go_sem, acondK_bool, acB_merge, Nat.reduceLT, Nat.reduceLeDiff, Nat.reduceEqDiff, Nat.reduceAdd, Nat.reduceSub, Nat.reduceMul, Nat.reduceBEq, Nat.reduceBNe, Nat.reduceBneDiff, Nat.reduceBeqDiff, Int.reduceToNat, Int.reduceLE, Int.reduceLT, Int.reduceEq, Int.reduceNe, Int.reduceNeg, Int.reduceAdd, Int.reduceSub, ↓reduceIte, reduceCtorEq, u1, u2, h3, h4, k_drawn_q (id := 4), x1, x2, A3, e2, wk]
  | false =>
    rw [h5] at A4 e1
    simp (maxSteps := 1000000) only [go_sem, acondK_bool, acB_merge, Nat.reduceLT, Nat.reduceLeDiff, Nat.reduceEqDiff, Nat.reduceAdd, Nat.reduceSub, Nat.reduceMul, Nat.reduceBEq, Nat.reduceBNe, Nat.reduceBneDiff, Nat.reduceBeqDiff, Int.reduceToNat, Int.reduceLE, Int.reduceLT, Int.reduceEq, Int.reduceNe, Int.reduceNeg, Int.reduceAdd, Int.reduceSub, ↓reduceIte, reduceCtorEq, v1, v2, h1, h2, t1, t2, A4, e1, k_drawn_q (id := 1), k_drawn_t (id := 3)]
    refine Eq.trans (ctE_ok (by repeat (first | exact MLe.nil | apply MLe.qq | apply MLe.q | apply MLe.o | apply MLe.b | apply MLe.l)) (by kernel_rfl)) ?_
    cases h3 : decide (chkE x 1 = 0) with
    | false => simp (maxSteps := 1000000) only [go_sem, acondK_bool, acB_merge, Nat.reduceLT, Nat.reduceLeDiff, Nat.reduceEqDiff, Nat.reduceAdd, Nat.reduceSub, Nat.reduceMul, Nat.reduceBEq, Nat.reduceBNe, Nat.reduceBneDiff, Nat.reduceBeqDiff, Int.reduceToNat, Int.reduceLE, Int.reduceLT, Int.reduceEq, Int.reduceNe, Int.reduceNeg, Int.reduceAdd, Int.reduceSub, ↓reduceIte, reduceCtorEq, u1, h3, k_drawn_q (id := 4), wk]
    | true =>
    cases h4 : decide (chkE y 1 = 0) with
    | false => simp (maxSteps := 1000000) only [go_sem, acondK_bool, acB_merge, Nat.reduceLT, Nat.reduceLeDiff, Nat.reduceEqDiff, Nat.reduceAdd, Nat.reduceSub, Nat.reduceMul, Nat.reduceBEq, Nat.reduceBNe, Nat.reduceBneDiff, Nat.reduceBeqDiff, Int.reduceToNat, Int.reduceLE, Int.reduceLT, Int.reduceEq, Int.reduceNe, Int.reduceNeg, Int.reduceAdd, Int.reduceSub, ↓reduceIte, reduceCtorEq, u1, u2, h3, h4, k_drawn_q (id := 4), wk]
    | true =>
    have A3 := A2 (of_decide_eq_true h3) (of_decide_eq_true h4)
    cases h6 : eqE x y with
    | true =>
      rw [h6] at A3 e2
      simp (maxSteps := 1000000) only [go_sem, acondK_bool, acB_merge, Nat.reduceLT, Nat.reduceLeDiff, Nat.reduceEqDiff, Nat.reduceAdd, Nat.reduceSub, Nat.reduceMul, Nat.reduceBEq, Nat.reduceBNe, Nat.reduceBneDiff, Nat.reduceBeqDiff, Int.reduceToNat, Int.reduceLE, Int.reduceLT, Int.reduceEq, Int.reduceNe, Int.reduceNeg, Int.reduceAdd, Int.reduceSub, ↓reduceIte, reduceCtorEq, u1, u2, h3, h4, k_drawn_q (id := 4), x1, x2, A3, e2, wk]
    | false =>
      rw [h6] at A3 e2
      simp (maxSteps := 1000000) only [go_sem, acondK_bool, acB_merge, Nat.reduceLT, Nat.reduceLeDiff, Nat.reduceEqDiff, Nat.reduceAdd, Nat.reduceSub, Nat.reduceMul, Nat.reduceBEq, Nat.reduceBNe, Nat.reduceBneDiff, Nat.reduceBeqDiff, Int.reduceToNat, Int.reduceLE, Int.reduceLT, Int.reduceEq, Int.reduceNe, Int.reduceNeg, Int.reduceAdd, Int.reduceSub, ↓reduceIte, reduceCtorEq, u1, u2, h3, h4, k_drawn_q (id := 4), x1, x2, A3, e2, wk]
theorem lawPrinterDistinctC (p q : Pr) (l : E × E) (kp : p.Ok) (kq : q.Ok) (kl : l.1.Ok ∧ l.2.Ok) : acl C 3 [Pr.av p, Pr.av q, arrE l.1 l.2] A00 = some (.d (.bool true), A00) := lawPrinterDistinct p q l.1 l.2 kp kq kl.1 kl.2 A00
end Go.Proofs.YtfflfaedghfmdaaDoor
