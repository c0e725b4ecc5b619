/- Reading the text of an expression back: the reader, and words, numbers, quotes. -/
import Derived.Test.YtfflfaedghfmdaaDoorSeatH
set_option linter.unusedVariables false
set_option linter.unusedSimpArgs false
set_option linter.all false
set_option linter.deprecated false
set_option linter.all false
namespace Go.Proofs.YtfflfaedghfmdaaDoor
open Go.Abs
set_option maxRecDepth 100000
/-! words and numbers -/
def partC (c : UInt8) : Bool := part (c.toNat : Int)
def digC (c : UInt8) : Bool := decide (48 ≤ c.toNat) && decide (c.toNat ≤ 57)
/-- nothing that could go on a word -/
def Ends (p : UInt8 → Bool) (r : Bytes) : Prop := ∀ c t, r = c :: t → p c = false
theorem tw (p : UInt8 → Bool) : ∀ (l r : Bytes), (∀ c ∈ l, p c = true) → Ends p r → (l ++ r).takeWhile p = l ∧ (l ++ r).dropWhile p = r
  | [], [], _, _ => ⟨rfl, rfl⟩
  | [], c :: r, _, h => by
    have := h c r rfl
    simp [this]
  | c :: l, r, hl, hr => by
    have h1 := hl c (by simp)
    have h2 := tw p l r (fun x hx => hl x (by simp [hx])) hr
    rw [List.cons_append, List.takeWhile_cons, List.dropWhile_cons, h1, if_pos rfl, if_pos rfl, h2.1, h2.2]
    exact ⟨rfl, rfl⟩
theorem wlen_part : ∀ l : Bytes, wlen l = l.length → ∀ c ∈ l, partC c = true
  | [], _, c, h => by cases h
  | b :: l, h, c, hc => by
    unfold wlen at h
    by_cases hb : part (b.toNat : Int) = true
    · rw [if_pos hb, List.length_cons] at h
      rcases List.mem_cons.1 hc with rfl | hc
      · exact hb
      · exact wlen_part l (by omega) c hc
    · rw [if_neg hb] at h
      simp at h
structure WordOk (s : Bytes) : Prop where
  ne : s ≠ []
  part : ∀ c ∈ s, partC c = true
  low : ∀ c t, s = c :: t → 97 ≤ c.toNat ∧ c.toNat ≤ 122
structure NameOk (s : Bytes) : Prop extends WordOk s where
  key : keywords.contains s = false
theorem nameOk {s : Bytes} (h : isName s = true) : NameOk s := by
  cases s with
  | nil => cases h
  | cons b l =>
    unfold isName at h
    simp only [Bool.and_eq_true, decide_eq_true_eq, Bool.not_eq_true'] at h
    obtain ⟨⟨⟨_, h1⟩, h2⟩, h3⟩ := h
    refine ⟨⟨by simp, wlen_part _ (by omega), ?_⟩, h3⟩
    intro c t hc
    injection hc with hc _
    subst hc
    omega
def numV (s : Bytes) : Nat := s.foldl (fun a c => 10 * a + (c.toNat - 48)) 0
theorem digit_toNat {k : Nat} (h : k < 10) : (UInt8.ofNat (48 + k)).toNat = 48 + k := by
  rw [UInt8.toNat_ofNat']
  omega
theorem dec_dig (u : Nat) : (∀ c ∈ Lib.decDigits u, digC c = true) ∧ numV (Lib.decDigits u) = u := by
  induction u using Nat.strongRecOn with
  | ind u ih =>
    rw [Lib.decDigits]
    by_cases h : u < 10
    · rw [dif_pos h]
      have := digit_toNat h
      refine ⟨fun c hc => ?_, ?_⟩
      · rw [List.mem_singleton] at hc
        subst hc
        simp only [digC, this, Bool.and_eq_true, decide_eq_true_eq]
        omega
      · simp only [numV, List.foldl_cons, List.foldl_nil, this]
        omega
    · rw [dif_neg h]
      have hm : u % 10 < 10 := Nat.mod_lt _ (by decide)
      have := digit_toNat hm
      obtain ⟨i1, i2⟩ := ih (u / 10) (by omega)
      refine ⟨fun c hc => ?_, ?_⟩
      · rcases List.mem_append.1 hc with hc | hc
        · exact i1 c hc
        · rw [List.mem_singleton] at hc
          subst hc
          simp only [digC, this, Bool.and_eq_true, decide_eq_true_eq]
          omega
      · unfold numV at i2 ⊢
        rw [List.foldl_append, i2]
        simp only [List.foldl_cons, List.foldl_nil, this]
        omega
theorem itoa_pos {n : Int} (h : 0 ≤ n) : Lib.itoa n = Lib.decDigits n.toNat := by
  unfold Lib.itoa
  rw [if_neg (by omega)]
theorem itoa_read {n : Int} (h : 0 ≤ n) (r : Bytes) (hr : Ends digC r) : (Lib.itoa n ++ r).takeWhile digC = Lib.itoa n ∧ (Lib.itoa n ++ r).dropWhile digC = r ∧ (numV (Lib.itoa n) : Int) = n := by
  rw [itoa_pos h]
  obtain ⟨h1, h2⟩ := dec_dig n.toNat
  have := tw digC _ r h1 hr
  exact ⟨this.1, this.2, by rw [h2]; omega⟩
theorem dec_ne (u : Nat) : Lib.decDigits u ≠ [] := by
  rw [Lib.decDigits]
  split <;> simp
/-! quotes -/
def rdQ : Bytes → Option (Bytes × Bytes)
  | [] => none
  | c :: t => if c = 34 then some ([], t) else if c = 92 then (match t with | [] => none | d :: u => (rdQ u).map fun x => (d :: x.1, x.2)) else (rdQ t).map fun x => (c :: x.1, x.2)
theorem rdQ_cons (c : UInt8) (t : Bytes) : rdQ (c :: t) = if c = 34 then some ([], t) else if c = 92 then (match t with | [] => none | d :: u => (rdQ u).map fun x => (d :: x.1, x.2)) else (rdQ t).map fun x => (c :: x.1, x.2) := by
  rw [rdQ.eq_def]
  rfl
theorem rdQ_esc (r : Bytes) : ∀ s : Bytes, rdQ (escS s ++ 34 :: r) = some (s, r)
  | [] => by
    unfold escS
    rw [List.flatMap_nil, List.nil_append, rdQ_cons, if_pos rfl]
  | c :: s => by
    have h := rdQ_esc r s
    unfold escS at h ⊢
    rw [List.flatMap_cons]
    by_cases hc : (decide ((c.toNat : Int) = 34) || decide ((c.toNat : Int) = 92)) = true
    · unfold esc
      rw [if_pos hc]
      change rdQ (92 :: c :: (List.flatMap esc s ++ 34 :: r)) = _
      rw [rdQ_cons, if_neg (by decide), if_pos rfl]
      dsimp only
      rw [h]
      rfl
    · unfold esc
      rw [if_neg hc]
      change rdQ (c :: (List.flatMap esc s ++ 34 :: r)) = _
      simp only [Bool.or_eq_true, decide_eq_true_eq, not_or] at hc
      have n1 : c ≠ 34 := by rintro rfl; exact hc.1 rfl
      have n2 : c ≠ 92 := by rintro rfl; exact hc.2 rfl
      rw [rdQ_cons, if_neg n1, if_neg n2, h]
      rfl
/-! signs -/
def bins : List Int := [17, 16, 10, 11, 13, 12, 15, 14, 19, 4, 5, 6, 7, 8]
def signAt : List Int → Bytes → Option (Int × Bytes)
  | [], _ => none
  | o :: l, s => if (32 :: (sgn o ++ [32])).isPrefixOf s = true then some (o, s.drop ((sgn o).length + 2)) else signAt l s
def rsign (s : Bytes) : Option (Int × Bytes) := signAt bins s
theorem rsign_op {op : Int} (h : ar op = 2) (r : Bytes) : rsign ([32] ++ (sgn op ++ ([32] ++ r))) = some (op, r) := by
  rcases bin_ops h with rfl | rfl | rfl | rfl | rfl | rfl | rfl | rfl | rfl | rfl | rfl | rfl | rfl | rfl <;> rfl
theorem signAt_head (c : UInt8) (t : Bytes) (hc : c ≠ 32) : ∀ l, signAt l (c :: t) = none
  | [] => rfl
  | o :: l => by
    have : (32 :: (sgn o ++ [32])).isPrefixOf (c :: t) = false := by
      rw [List.isPrefixOf]
      have : ((32 : UInt8) == c) = false := by simpa using fun h => hc h.symm
      rw [this]
      rfl
    rw [signAt, this, if_neg (by simp), signAt_head c t hc l]
theorem rsign_nil : rsign [] = none := rfl
theorem rsign_head {c : UInt8} {t : Bytes} (hc : c ≠ 32) : rsign (c :: t) = none := signAt_head c t hc _
theorem signAt_mem {s : Bytes} {op : Int} {t : Bytes} : ∀ l, signAt l s = some (op, t) → op ∈ l
  | [], h => by cases h
  | o :: l, h => by
    rw [signAt] at h
    split at h
    · injection h with h
      injection h with h _
      simp [h]
    · exact List.mem_cons_of_mem _ (signAt_mem l h)
theorem rsign_ar {s : Bytes} {op : Int} {t : Bytes} (h : rsign s = some (op, t)) : ar op = 2 := by
  have := signAt_mem _ h
  simp only [bins, List.mem_cons, List.not_mem_nil, or_false] at this
  rcases this with rfl | rfl | rfl | rfl | rfl | rfl | rfl | rfl | rfl | rfl | rfl | rfl | rfl | rfl <;> rfl
/-- what may stand behind an expression -/
def Stop (r : Bytes) : Prop := ∀ c t, r = c :: t → c = 32 ∨ c = 41 ∨ c = 59
def Low (k : Int) (r : Bytes) : Prop := ∀ op t, rsign r = some (op, t) → lvl op < k
theorem Stop.part {r : Bytes} (h : Stop r) : Ends partC r := by
  intro c t hc
  rcases h c t hc with rfl | rfl | rfl <;> rfl
theorem Stop.dig {r : Bytes} (h : Stop r) : Ends digC r := by
  intro c t hc
  rcases h c t hc with rfl | rfl | rfl <;> rfl
theorem Low.mono {k m : Int} {r : Bytes} (h : Low k r) (hk : k ≤ m) : Low m r := fun op t ht => by have := h op t ht; omega
theorem low_none {r : Bytes} (h : rsign r = none) (k : Int) : Low k r := fun op t ht => by rw [h] at ht; cases ht
/-! the reader -/
def opOf (w : Bytes) : Int := if w = wrd 20 then 20 else if w = wrd 21 then 21 else if w = wrd 22 then 22 else if w = wrd 23 then 23 else if w = wrd 24 then 24 else if w = wrd 25 then 25 else if w = wrd 26 then 26 else 27
def isNot (s : Bytes) : Bool := ([110, 111, 116, 32] : Bytes).isPrefixOf s
def isNeg (s : Bytes) : Bool := ([45] : Bytes).isPrefixOf s
def shut (x : Option (E × Bytes)) (g : E → E) : Option (E × Bytes) := match x with
  | some (e, c :: r) => if c = 41 then some (g e, r) else none
  | _ => none
mutual
def rdL : Nat → Int → Bytes → Option (E × Bytes)
  | 0, _, _ => none
  | f + 1, k, s =>
    if k = 3 ∧ isNot s = true then (rdL f 3 (s.drop 4)).bind fun x => rdO f 3 (.mk 18 0 [] [x.1]) x.2
    else if k = 8 ∧ isNeg s = true then (rdL f 8 (s.drop 1)).bind fun x => rdO f 8 (.mk 9 0 [] [x.1]) x.2
    else if k = 9 then rdP f s
    else (rdL f (k + 1) s).bind fun x => rdO f k x.1 x.2
def rdO : Nat → Int → E → Bytes → Option (E × Bytes)
  | 0, _, _, _ => none
  | f + 1, k, x, s => match rsign s with
    | some (op, t) => if lvl op = k then (rdL f (k + 1) t).bind fun y => rdO f k (.mk op 0 [] [x, y.1]) y.2 else some (x, s)
    | none => some (x, s)
def rdP : Nat → Bytes → Option (E × Bytes)
  | 0, _ => none
  | f + 1, s => match s with
    | [] => none
    | c :: t =>
      if c = 40 then shut (rdL f 1 t) id
      else if c = 34 then (rdQ t).map fun x => (.mk 2 0 x.1 [], x.2)
      else if digC c = true then some (.mk 1 (numV (s.takeWhile digC)) [] [], s.dropWhile digC)
      else match s.dropWhile partC with
        | d :: u => if d = 40 then (match u with
            | [] => none
            | v :: w => if v = 41 then some (.mk (opOf (s.takeWhile partC)) 0 [] [], w) else shut (rdL f 1 u) fun x => .mk (opOf (s.takeWhile partC)) 0 [] [x])
          else some (.mk 3 0 (s.takeWhile partC) [], d :: u)
        | [] => some (.mk 3 0 (s.takeWhile partC) [], [])
end
def EvL (k : Int) (s : Bytes) (x : E) (r : Bytes) : Prop := ∃ f0 : Nat, ∀ f : Nat, f0 ≤ f → rdL f k s = some (x, r)
def EvO (k : Int) (e : E) (s : Bytes) (x : E) (r : Bytes) : Prop := ∃ f0 : Nat, ∀ f : Nat, f0 ≤ f → rdO f k e s = some (x, r)
def EvP (s : Bytes) (x : E) (r : Bytes) : Prop := ∃ f0 : Nat, ∀ f : Nat, f0 ≤ f → rdP f s = some (x, r)
theorem evL_not {s : Bytes} {x y : E} {r q : Bytes} (h : EvL 3 s x r) (h2 : EvO 3 (.mk 18 0 [] [x]) r y q) : EvL 3 ([110, 111, 116, 32] ++ s) y q := by
  obtain ⟨a, ha⟩ := h
  obtain ⟨b, hb⟩ := h2
  refine ⟨a + b + 1, fun f hf => ?_⟩
  obtain ⟨f, rfl⟩ : ∃ g, f = g + 1 := ⟨f - 1, by omega⟩
  have h0 : ([110, 111, 116, 32] ++ s : Bytes).drop 4 = s := rfl
  rw [rdL, if_pos ⟨rfl, rfl⟩, h0, ha f (by omega)]
  exact hb f (by omega)
theorem evL_neg {s : Bytes} {x y : E} {r q : Bytes} (h : EvL 8 s x r) (h2 : EvO 8 (.mk 9 0 [] [x]) r y q) : EvL 8 ([45] ++ s) y q := by
  obtain ⟨a, ha⟩ := h
  obtain ⟨b, hb⟩ := h2
  refine ⟨a + b + 1, fun f hf => ?_⟩
  obtain ⟨f, rfl⟩ : ∃ g, f = g + 1 := ⟨f - 1, by omega⟩
  have h0 : ([45] ++ s : Bytes).drop 1 = s := rfl
  rw [rdL, if_neg (by rintro ⟨h, _⟩; revert h; decide), if_pos ⟨rfl, rfl⟩, h0, ha f (by omega)]
  exact hb f (by omega)
theorem evL_prim {s : Bytes} {x : E} {r : Bytes} (h : EvP s x r) : EvL 9 s x r := by
  obtain ⟨a, ha⟩ := h
  refine ⟨a + 1, fun f hf => ?_⟩
  obtain ⟨f, rfl⟩ : ∃ g, f = g + 1 := ⟨f - 1, by omega⟩
  rw [rdL, if_neg (by rintro ⟨h, _⟩; revert h; decide), if_neg (by rintro ⟨h, _⟩; revert h; decide), if_pos rfl, ha f (by omega)]
theorem evL_down {k : Int} {s : Bytes} {x y : E} {r q : Bytes} (h3 : k = 3 → isNot s = false) (h8 : k = 8 → isNeg s = false) (h9 : k ≠ 9) (h : EvL (k + 1) s x r) (h2 : EvO k x r y q) : EvL k s y q := by
  obtain ⟨a, ha⟩ := h
  obtain ⟨b, hb⟩ := h2
  refine ⟨a + b + 1, fun f hf => ?_⟩
  obtain ⟨f, rfl⟩ : ∃ g, f = g + 1 := ⟨f - 1, by omega⟩
  rw [rdL, if_neg (by rintro ⟨h, h'⟩; rw [h3 h] at h'; cases h'), if_neg (by rintro ⟨h, h'⟩; rw [h8 h] at h'; cases h'), if_neg h9, ha f (by omega)]
  exact hb f (by omega)
theorem evO_stop {k : Int} {x : E} {r : Bytes} (h : ∀ op t, rsign r = some (op, t) → lvl op ≠ k) : EvO k x r x r := by
  refine ⟨1, fun f hf => ?_⟩
  obtain ⟨f, rfl⟩ : ∃ g, f = g + 1 := ⟨f - 1, by omega⟩
  rw [rdO]
  split
  · rename_i op t ho
    rw [if_neg (h op t ho)]
  · rfl
theorem evO_step {k op : Int} {x y z : E} {s t r q : Bytes} (h : rsign s = some (op, t)) (hk : lvl op = k) (h1 : EvL (k + 1) t y r) (h2 : EvO k (.mk op 0 [] [x, y]) r z q) : EvO k x s z q := by
  obtain ⟨a, ha⟩ := h1
  obtain ⟨b, hb⟩ := h2
  refine ⟨a + b + 1, fun f hf => ?_⟩
  obtain ⟨f, rfl⟩ : ∃ g, f = g + 1 := ⟨f - 1, by omega⟩
  rw [rdO, h]
  dsimp only
  rw [if_pos hk, ha f (by omega)]
  exact hb f (by omega)
theorem evP_par {s : Bytes} {x : E} {r : Bytes} (h : EvL 1 s x (41 :: r)) : EvP (40 :: s) x r := by
  obtain ⟨a, ha⟩ := h
  refine ⟨a + 1, fun f hf => ?_⟩
  obtain ⟨f, rfl⟩ : ∃ g, f = g + 1 := ⟨f - 1, by omega⟩
  rw [rdP]
  rw [if_pos rfl, ha f (by omega)]
  rfl
theorem evP_str (s r : Bytes) : EvP (quoteS s ++ r) (.mk 2 0 s []) r := by
  refine ⟨1, fun f hf => ?_⟩
  obtain ⟨f, rfl⟩ : ∃ g, f = g + 1 := ⟨f - 1, by omega⟩
  have h0 : quoteS s ++ r = 34 :: (escS s ++ 34 :: r) := by unfold quoteS; simp
  rw [h0, rdP]
  rw [if_neg (by decide), if_pos rfl, rdQ_esc]
  rfl
theorem evP_int {n : Int} (h : 0 ≤ n) {r : Bytes} (hr : Ends digC r) : EvP (Lib.itoa n ++ r) (.mk 1 n [] []) r := by
  refine ⟨1, fun f hf => ?_⟩
  obtain ⟨f, rfl⟩ : ∃ g, f = g + 1 := ⟨f - 1, by omega⟩
  obtain ⟨h1, h2, h3⟩ := itoa_read h r hr
  have hd := (dec_dig n.toNat).1
  have hne := dec_ne n.toNat
  rw [← itoa_pos h] at hd hne
  cases hi : Lib.itoa n with
  | nil => exact absurd hi hne
  | cons c t =>
    have hc := hd c (by rw [hi]; simp)
    rw [hi] at h1 h2 h3
    rw [List.cons_append] at h1 h2 ⊢
    rw [rdP]
    have n1 : c ≠ 40 := by rintro rfl; cases hc
    have n2 : c ≠ 34 := by rintro rfl; cases hc
    rw [if_neg n1, if_neg n2, if_pos hc, h1, h2, h3]
theorem low_digC {c : UInt8} (h : 97 ≤ c.toNat ∧ c.toNat ≤ 122) : c ≠ 40 ∧ c ≠ 34 ∧ digC c = false ∧ c ≠ 45 := by
  refine ⟨?_, ?_, ?_, ?_⟩
  · rintro rfl; revert h; decide
  · rintro rfl; revert h; decide
  · unfold digC
    rw [decF (p := c.toNat ≤ 57) (by omega), Bool.and_false]
  · rintro rfl; revert h; decide
theorem evP_var {s r : Bytes} (h : NameOk s) (hr : Stop r) : EvP (s ++ r) (.mk 3 0 s []) r := by
  refine ⟨1, fun f hf => ?_⟩
  obtain ⟨f, rfl⟩ : ∃ g, f = g + 1 := ⟨f - 1, by omega⟩
  obtain ⟨h1, h2⟩ := tw partC s r h.part hr.part
  cases s with
  | nil => exact absurd rfl h.ne
  | cons c t =>
    obtain ⟨n1, n2, n3, _⟩ := low_digC (h.low c t rfl)
    rw [List.cons_append] at h1 h2 ⊢
    rw [rdP]
    rw [if_neg n1, if_neg n2, n3, if_neg (by simp), h1, h2]
    cases r with
    | nil => rfl
    | cons d u =>
      dsimp only
      rw [if_neg (by rintro rfl; rcases hr _ u rfl with h | h | h <;> revert h <;> decide)]
/-- a word that is written like a call -/
theorem wrd_call {op : Int} (h : 20 ≤ op ∧ op ≤ 27) : WordOk (wrd op) ∧ opOf (wrd op) = op := by
  have : op = 20 ∨ op = 21 ∨ op = 22 ∨ op = 23 ∨ op = 24 ∨ op = 25 ∨ op = 26 ∨ op = 27 := by omega
  rcases this with rfl | rfl | rfl | rfl | rfl | rfl | rfl | rfl <;> exact ⟨⟨by decide, by decide, fun c t hc => by injection hc with hc _; subst hc; decide⟩, by decide⟩
theorem ends40 (t : Bytes) : Ends partC (40 :: t) := fun c u h => by injection h with h _; subst h; rfl
theorem evP_call0 {op : Int} (h : 20 ≤ op ∧ op ≤ 27) (r : Bytes) : EvP (wrd op ++ 40 :: 41 :: r) (.mk op 0 [] []) r := by
  obtain ⟨hw, ho⟩ := wrd_call h
  refine ⟨1, fun f hf => ?_⟩
  obtain ⟨f, rfl⟩ : ∃ g, f = g + 1 := ⟨f - 1, by omega⟩
  obtain ⟨h1, h2⟩ := tw partC (wrd op) (40 :: 41 :: r) hw.part (ends40 _)
  generalize wrd op = s at *
  cases s with
  | nil => exact absurd rfl hw.ne
  | cons c t =>
    obtain ⟨n1, n2, n3, _⟩ := low_digC (hw.low c t rfl)
    rw [List.cons_append] at h1 h2 ⊢
    rw [rdP]
    rw [if_neg n1, if_neg n2, n3, if_neg (by simp), h1, h2]
    dsimp only
    rw [if_pos rfl, if_pos rfl, ho]
theorem evP_call1 {op : Int} (h : 20 ≤ op ∧ op ≤ 27) {s : Bytes} {x : E} {r : Bytes} (hs : ∃ c t, s = c :: t ∧ c ≠ 41) (hx : EvL 1 s x (41 :: r)) : EvP (wrd op ++ 40 :: s) (.mk op 0 [] [x]) r := by
  obtain ⟨hw, ho⟩ := wrd_call h
  obtain ⟨a, ha⟩ := hx
  refine ⟨a + 1, fun f hf => ?_⟩
  obtain ⟨f, rfl⟩ : ∃ g, f = g + 1 := ⟨f - 1, by omega⟩
  obtain ⟨h1, h2⟩ := tw partC (wrd op) (40 :: s) hw.part (ends40 _)
  have ha := ha f (by omega)
  obtain ⟨v, w, rfl, hv⟩ := hs
  generalize wrd op = s at *
  cases s with
  | nil => exact absurd rfl hw.ne
  | cons c t =>
    obtain ⟨n1, n2, n3, _⟩ := low_digC (hw.low c t rfl)
    rw [List.cons_append] at h1 h2 ⊢
    rw [rdP]
    rw [if_neg n1, if_neg n2, n3, if_neg (by simp), h1, h2]
    dsimp only
    rw [if_pos rfl, if_neg hv, ha, ho]
    rfl
end Go.Proofs.YtfflfaedghfmdaaDoor
set_option linter.all false
namespace Go.Proofs.YtfflfaedghfmdaaDoor
open Go.Abs
set_option maxRecDepth 100000
/-! how a text begins -/
structure Head (e : E) : Prop where
  ne : ∃ c t, textS e = c :: t ∧ c ≠ 41
  no : 4 ≤ lvl e.op → ∀ r, Stop r → isNot (textS e ++ r) = false
  neg : lvl e.op = 9 → ∀ r, isNeg (textS e ++ r) = false
theorem isNot_head {c : UInt8} {t : Bytes} (h : c ≠ 110) : isNot (c :: t) = false := by
  unfold isNot
  rw [List.isPrefixOf]
  have : ((110 : UInt8) == c) = false := by simpa using fun h' => h h'.symm
  rw [this, Bool.false_and]
theorem isNeg_head {c : UInt8} {t : Bytes} (h : c ≠ 45) : isNeg (c :: t) = false := by
  unfold isNeg
  rw [List.isPrefixOf]
  have : ((45 : UInt8) == c) = false := by simpa using fun h' => h h'.symm
  rw [this, Bool.false_and]
theorem isNot_word {s r : Bytes} (h : WordOk s) (hr : Ends partC r) (hk : s ≠ [110, 111, 116]) : isNot (s ++ r) = false := by
  cases hn : isNot (s ++ r) with
  | false => rfl
  | true =>
    obtain ⟨h1, _⟩ := tw partC s r h.part hr
    unfold isNot at hn
    obtain ⟨u, hu⟩ := List.isPrefixOf_iff_prefix.1 hn
    rw [← hu] at h1
    exact absurd h1.symm hk
theorem wrd_not {op : Int} : wrd op ≠ [110, 111, 116] := by
  unfold wrd
  repeat' split
  all_goals decide
theorem key_not {s : Bytes} (h : NameOk s) : s ≠ [110, 111, 116] := by
  rintro rfl
  have := h.key
  revert this
  decide
theorem par_head {x : E} (hx : Head x) (k : Int) : ∃ c t, par x.op (textS x) k = c :: t ∧ c ≠ 41 := by
  unfold par
  split
  · exact ⟨40, _, rfl, by decide⟩
  · exact hx.ne
theorem par_not {x : E} (hx : Head x) {k : Int} (hk : 4 ≤ k) (r : Bytes) (hr : Stop r) : isNot (par x.op (textS x) k ++ r) = false := by
  unfold par
  split
  · exact isNot_head (by decide)
  · exact hx.no (by omega) r hr
/-- what a valid expression is -/
structure VE (e : E) : Prop where
  ex : ∃ d, 0 ≤ d ∧ chkE e d = 0
theorem VE.parts {op n : Int} {s : Bytes} {args : List E} (h : VE (.mk op n s args)) :
    (∀ x ∈ args, VE x) ∧ ((op = 1 ∧ 0 ≤ n ∧ s = [] ∧ args = []) ∨ (op = 2 ∧ n = 0 ∧ args = []) ∨ (op = 3 ∧ n = 0 ∧ NameOk s ∧ args = []) ∨ (25 ≤ op ∧ op ≤ 27 ∧ n = 0 ∧ s = [] ∧ args = []) ∨
      (∃ x, args = [x] ∧ n = 0 ∧ s = [] ∧ (op = 18 ∨ op = 9 ∨ (20 ≤ op ∧ op ≤ 24))) ∨ (∃ x y, args = [x, y] ∧ n = 0 ∧ s = [] ∧ ar op = 2)) := by
  obtain ⟨d, h0d, hv⟩ := h
  rw [chkE_zero] at hv
  obtain ⟨hn, hL⟩ := hv
  have hz := nodeS_zero hn
  obtain ⟨m1, m2, m3, m4⟩ := nodeS_more hn
  rw [wrap_step h0d hz.2.2.2.1] at hL
  refine ⟨fun x hx => ⟨d + 1, by omega, chkL_mem _ _ hL x hx⟩, ?_⟩
  rcases ar_cases hz.2.1 with ha | ha | ha
  · have hargs : args = [] := by
      have := hz.2.2.1
      rw [ha] at this
      cases args with
      | nil => rfl
      | cons _ _ => simp at this; omega
    by_cases h1 : op = 1
    · exact .inl ⟨h1, m2 h1, m4 (by omega) (by omega), hargs⟩
    by_cases h2 : op = 2
    · exact .inr (.inl ⟨h2, m3 h1, hargs⟩)
    by_cases h3 : op = 3
    · exact .inr (.inr (.inl ⟨h3, m3 h1, nameOk (hz.2.2.2.2 h3), hargs⟩))
    obtain ⟨_, h25, h27⟩ := leaf_lvl ha h1 h2 h3
    exact .inr (.inr (.inr (.inl ⟨h25, h27, m3 h1, m4 h2 h3, hargs⟩)))
  · obtain ⟨x, rfl⟩ : ∃ x, args = [x] := by
      have := hz.2.2.1
      rw [ha] at this
      match args, this with
      | [x], _ => exact ⟨x, rfl⟩
      | [], h => simp at h
      | _ :: _ :: _, h => simp at h; omega
    obtain ⟨h1, h2, h3⟩ := una_ne ha
    refine .inr (.inr (.inr (.inr (.inl ⟨x, rfl, m3 h1, m4 h2 h3, ?_⟩))))
    by_cases h18 : op = 18
    · exact .inl h18
    by_cases h9 : op = 9
    · exact .inr (.inl h9)
    have := una_ops ha h18 h9
    omega
  · obtain ⟨x, y, rfl⟩ : ∃ x y, args = [x, y] := by
      have := hz.2.2.1
      rw [ha] at this
      match args, this with
      | [x, y], _ => exact ⟨x, y, rfl⟩
      | [], h => simp at h
      | [_], h => simp at h
      | _ :: _ :: _ :: _, h => simp at h; omega
    obtain ⟨_, _, _, h1, h2, h3, _⟩ := bin_lvl ha
    exact .inr (.inr (.inr (.inr (.inr ⟨x, y, rfl, m3 h1, m4 h2 h3, ha⟩))))
theorem head_of {e : E} {c : UInt8} {t : Bytes} (ht : textS e = c :: t) (h1 : c ≠ 41) (h2 : 4 ≤ lvl e.op → ∀ r, Stop r → isNot (textS e ++ r) = false) (h3 : lvl e.op = 9 → c ≠ 45) : Head e :=
  ⟨⟨c, t, ht, h1⟩, h2, fun h r => by rw [ht]; exact isNeg_head (h3 h)⟩
theorem word_head {s : Bytes} (h : WordOk s) : ∃ c t, s = c :: t ∧ c ≠ 41 ∧ c ≠ 45 := by
  cases s with
  | nil => exact absurd rfl h.ne
  | cons c t =>
    have h1 := h.low c t rfl
    exact ⟨c, t, rfl, by rintro rfl; revert h1; decide, (low_digC h1).2.2.2⟩
theorem stop32 (t : Bytes) : Stop (32 :: t) := fun c u h => by injection h with h _; exact .inl h.symm
theorem stop41 (t : Bytes) : Stop (41 :: t) := fun c u h => by injection h with h _; exact .inr (.inl h.symm)
theorem stop59 (t : Bytes) : Stop (59 :: t) := fun c u h => by injection h with h _; exact .inr (.inr h.symm)
theorem stop_nil : Stop [] := fun c u h => by cases h
theorem txt_int (n : Int) (s : Bytes) : textS (.mk 1 n s []) = Lib.itoa n := by rw [textS]; rfl
theorem txt_str (n : Int) (s : Bytes) : textS (.mk 2 n s []) = quoteS s := by rw [textS]; rfl
theorem txt_var (n : Int) (s : Bytes) : textS (.mk 3 n s []) = s := by rw [textS]; rfl
theorem txt_call0 {op : Int} (h : 25 ≤ op ∧ op ≤ 27) (n : Int) (s : Bytes) : textS (.mk op n s []) = wrd op ++ [40, 41] := by
  rw [textS, textsS]
  unfold bodyT
  rw [if_neg (by omega), if_neg (by omega), if_neg (by omega)]
theorem txt_call1 {op : Int} (h : 20 ≤ op ∧ op ≤ 24) (n : Int) (s : Bytes) (x : E) : textS (.mk op n s [x]) = wrd op ++ [40] ++ textS x ++ [41] := by
  rw [textS, textsS, textsS]
  unfold bodyT
  rw [if_neg (by omega), if_neg (by omega), if_neg (by omega)]
  dsimp only
  rw [if_neg (by omega), if_neg (by omega)]
theorem txt_not (n : Int) (s : Bytes) (x : E) : textS (.mk 18 n s [x]) = [110, 111, 116, 32] ++ par x.op (textS x) 3 := by rw [textS, textsS, textsS]; rfl
theorem txt_neg (n : Int) (s : Bytes) (x : E) : textS (.mk 9 n s [x]) = [45] ++ par x.op (textS x) 8 := by rw [textS, textsS, textsS]; rfl
/-- the level of the left operand -/
def lft (op : Int) : Int := if lvl op = 4 then 5 else lvl op
theorem txt_bin {op : Int} (h : ar op = 2) (n : Int) (s : Bytes) (x y : E) : textS (.mk op n s [x, y]) = par x.op (textS x) (lft op) ++ ([32] ++ (sgn op ++ ([32] ++ par y.op (textS y) (lvl op + 1)))) := by
  obtain ⟨_, _, _, h1, h2, h3, _⟩ := bin_lvl h
  rw [textS, textsS, textsS, textsS]
  unfold bodyT lft
  rw [if_neg h1, if_neg h2, if_neg h3]
  dsimp only
  split
  · rename_i h4
    rw [h4]
    simp only [List.append_assoc]
    rfl
  · simp only [List.append_assoc]
theorem lvl_call {op : Int} (h : 20 ≤ op ∧ op ≤ 27) : lvl op = 9 := by
  have : op = 20 ∨ op = 21 ∨ op = 22 ∨ op = 23 ∨ op = 24 ∨ op = 25 ∨ op = 26 ∨ op = 27 := by omega
  rcases this with rfl | rfl | rfl | rfl | rfl | rfl | rfl | rfl <;> decide
theorem headE : ∀ e, VE e → Head e := by
  intro e
  induction e using E.ind with
  | h op n s args ih =>
    intro hv
    obtain ⟨hargs, hc⟩ := hv.parts
    rcases hc with ⟨rfl, hn, rfl, rfl⟩ | ⟨rfl, rfl, rfl⟩ | ⟨rfl, rfl, hs, rfl⟩ | ⟨h25, h27, rfl, rfl, rfl⟩ | ⟨x, rfl, rfl, rfl, hop⟩ | ⟨x, y, rfl, rfl, rfl, ha⟩
    · have hd := (dec_dig n.toNat).1
      have hne := dec_ne n.toNat
      rw [← itoa_pos hn] at hd hne
      cases hi : Lib.itoa n with
      | nil => exact absurd hi hne
      | cons c t =>
        have hc := hd c (by rw [hi]; simp)
        have ht : textS (.mk 1 n [] []) = c :: t := by rw [txt_int, hi]
        refine head_of ht (by rintro rfl; cases hc) (fun _ r _ => ?_) (fun _ => by rintro rfl; cases hc)
        rw [ht]
        exact isNot_head (by rintro rfl; cases hc)
    · have ht := txt_str 0 s
      refine head_of (ht.trans rfl) (by decide) (fun _ r _ => ?_) (fun _ => by decide)
      rw [ht]
      exact isNot_head (by decide)
    · have ht := txt_var 0 s
      obtain ⟨c, t, hct, n1, n2⟩ := word_head hs.toWordOk
      refine head_of (ht.trans hct) n1 (fun _ r hr => ?_) (fun _ => n2)
      rw [ht]
      exact isNot_word hs.toWordOk hr.part (key_not hs)
    · have ht := txt_call0 ⟨h25, h27⟩ 0 []
      obtain ⟨hw, _⟩ := wrd_call (op := op) (by omega)
      obtain ⟨c, t, hct, n1, n2⟩ := word_head hw
      refine head_of (ht.trans (by rw [hct]; rfl)) n1 (fun _ r hr => ?_) (fun _ => n2)
      rw [ht, List.append_assoc]
      exact isNot_word hw (ends40 _) wrd_not
    · have hx := ih x (by simp) (hargs x (by simp))
      rcases hop with rfl | rfl | hop
      · have ht := txt_not 0 [] x
        exact head_of (ht.trans rfl) (by decide) (fun h => absurd (show 4 ≤ lvl 18 from h) (by decide)) (fun _ => by decide)
      · have ht := txt_neg 0 [] x
        refine head_of (ht.trans rfl) (by decide) (fun _ r _ => ?_) (fun h => absurd (show lvl 9 = 9 from h) (by decide))
        rw [ht]
        exact isNot_head (by decide)
      · have ht := txt_call1 hop 0 [] x
        obtain ⟨hw, _⟩ := wrd_call (op := op) (by omega)
        obtain ⟨c, t, hct, n1, n2⟩ := word_head hw
        refine head_of (ht.trans (by rw [hct]; rfl)) n1 (fun _ r hr => ?_) (fun _ => n2)
        rw [ht, List.append_assoc, List.append_assoc, List.append_assoc]
        exact isNot_word hw (ends40 _) wrd_not
    · have hx := ih x (by simp) (hargs x (by simp))
      have ht := txt_bin ha 0 [] x y
      obtain ⟨b1, b2, b3, b4, b5, b6, b7, b8⟩ := bin_lvl ha
      obtain ⟨c, t, hct, n1⟩ := par_head hx (lft op)
      refine head_of (ht.trans (by rw [hct]; rfl)) n1 (fun h r hr => ?_) (fun h => absurd h b1)
      rw [ht, List.append_assoc]
      exact par_not hx (by unfold lft; split; decide; exact h) _ (stop32 _)
/-! reading back -/
theorem low41 (r : Bytes) (k : Int) : Low k (41 :: r) := low_none (rsign_head (by decide)) k
theorem evO_low {k : Int} {x : E} {r : Bytes} (h : Low k r) : EvO k x r x r := evO_stop fun op t ho => by have := h op t ho; omega
theorem low_lvl {r : Bytes} {k : Int} (h : k = 3 ∨ k = 8 ∨ k = 9) : ∀ op t, rsign r = some (op, t) → lvl op ≠ k := by
  intro op t ho
  have ha := rsign_ar ho
  rcases bin_ops ha with rfl | rfl | rfl | rfl | rfl | rfl | rfl | rfl | rfl | rfl | rfl | rfl | rfl | rfl <;> rcases h with rfl | rfl | rfl <;> decide
/-- from a level down to another -/
theorem evL_to {s : Bytes} {e : E} {r : Bytes} {X : E} {R : Bytes} {k : Int} (hO : EvO k e r X R) (hl : Low (k + 1) r) : ∀ (m : Nat), k + m ≤ 8 →
    (∀ j, k ≤ j → j ≤ k + m → j = 3 → isNot s = false) → (∀ j, k ≤ j → j ≤ k + m → j = 8 → isNeg s = false) → EvL (k + m + 1) s e r → EvL k s X R
  | 0, h8, h3, hn, h => evL_down (fun hk => h3 k (by omega) (by omega) hk) (fun hk => hn k (by omega) (by omega) hk) (by omega) (by simpa using h) hO
  | m + 1, h8, h3, hn, h => by
    refine evL_to hO hl m (by omega) (fun j h1 h2 => h3 j h1 (by omega)) (fun j h1 h2 => hn j h1 (by omega)) ?_
    have hm : k + ((m + 1 : Nat) : Int) + 1 = k + (m : Int) + 1 + 1 := by omega
    rw [hm] at h
    exact evL_down (fun hk => h3 _ (by omega) (by omega) hk) (fun hk => hn _ (by omega) (by omega) hk) (by omega) h (evO_low (hl.mono (by omega)))
/-- from its own level on -/
theorem evL_from {s : Bytes} {e : E} {r : Bytes} {X : E} {R : Bytes} {k n : Int} (hk : k < n) (hn : n ≤ 9) (hO : EvO k e r X R) (hl : Low (k + 1) r) (h3 : 4 ≤ n → isNot s = false) (h8 : n = 9 → isNeg s = false) (h : EvL n s e r) : EvL k s X R := by
  refine evL_to hO hl (n - k - 1).toNat (by omega) (fun j h1 h2 hj => h3 (by omega)) (fun j h1 h2 hj => h8 (by omega)) ?_
  have : k + ((n - k - 1).toNat : Int) + 1 = n := by omega
  rw [this]
  exact h
/-- the text of an expression at a level is read back -/
def Back (e : E) : Prop := ∀ (k : Int) (r : Bytes) (X : E) (R : Bytes), 1 ≤ k → k ≤ 9 → Stop r → Low (k + 1) r → EvO k e r X R → EvL k (par e.op (textS e) k ++ r) X R
/-- its own level -/
def Back1 (e : E) : Prop := ∀ (r : Bytes) (X : E) (R : Bytes), Stop r → Low (lvl e.op + 1) r → EvO (lvl e.op) e r X R → EvL (lvl e.op) (textS e ++ r) X R
theorem lvl_range (op : Int) : 1 ≤ lvl op ∧ lvl op ≤ 9 := by
  unfold lvl
  repeat' split
  all_goals omega
theorem back_of {e : E} (hv : VE e) (h : Back1 e) : Back e := by
  have hh := headE e hv
  obtain ⟨l1, l9⟩ := lvl_range e.op
  have low : ∀ (k : Int) (r : Bytes) (X : E) (R : Bytes), 1 ≤ k → k ≤ lvl e.op → Stop r → Low (k + 1) r → EvO k e r X R → EvL k (textS e ++ r) X R := by
    intro k r X R h1 h2 hs hl hO
    by_cases hk : k = lvl e.op
    · subst hk
      exact h r X R hs hl hO
    · exact evL_from (by omega) l9 hO hl (fun h4 => hh.no h4 r hs) (fun h9 => hh.neg h9 r) (h r e r hs (hl.mono (by omega)) (evO_low (hl.mono (by omega))))
  intro k r X R h1 h9 hs hl hO
  unfold par
  by_cases hk : lvl e.op < k
  · rw [if_pos hk]
    have h0 : 40 :: (textS e ++ [41]) ++ r = 40 :: (textS e ++ 41 :: r) := by simp
    rw [h0]
    have hp := evP_par (low 1 (41 :: r) e (41 :: r) (by decide) l1 (stop41 r) (low41 r _) (evO_low (low41 r _)))
    by_cases hk9 : k = 9
    · subst hk9
      have : X = e ∧ R = r := by
        obtain ⟨a, ha⟩ := hO
        obtain ⟨b, hb⟩ := evO_stop (x := e) (low_lvl (r := r) (k := 9) (by decide))
        have h1 := ha (a + b) (by omega)
        have h2 := hb (a + b) (by omega)
        rw [h1] at h2
        injection h2 with h2
        injection h2 with h2 h3
        exact ⟨h2, h3⟩
      rw [this.1, this.2]
      exact evL_prim hp
    · exact evL_from (n := 9) (by omega) (by decide) hO hl (fun _ => isNot_head (by decide)) (fun _ => isNeg_head (by decide)) (evL_prim hp)
  · rw [if_neg hk]
    exact low k r X R h1 (by omega) hs hl hO
theorem ev9 {e : E} {r : Bytes} {X : E} {R : Bytes} {s : Bytes} (hO : EvO 9 e r X R) (h : EvP s e r) : EvL 9 s X R := by
  obtain ⟨a, ha⟩ := hO
  obtain ⟨b, hb⟩ := evO_stop (x := e) (low_lvl (r := r) (k := 9) (by decide))
  have h1 := ha (a + b) (by omega)
  have h2 := hb (a + b) (by omega)
  rw [h1] at h2
  injection h2 with h2
  injection h2 with h2 h3
  rw [h2, h3]
  exact evL_prim h
theorem evL_eq {k j : Int} {s : Bytes} {x : E} {r : Bytes} (h : k = j) (hx : EvL j s x r) : EvL k s x r := by rw [h]; exact hx
theorem back1E : ∀ e, VE e → Back1 e := by
  intro e
  induction e using E.ind with
  | h op n s args ih =>
    intro hv
    obtain ⟨hargs, hc⟩ := hv.parts
    have IH : ∀ x ∈ args, Back x := fun x hx => back_of (hargs x hx) (ih x hx (hargs x hx))
    intro r X R hs hl hO
    rcases hc with ⟨rfl, hn, rfl, rfl⟩ | ⟨rfl, rfl, rfl⟩ | ⟨rfl, rfl, hn, rfl⟩ | ⟨h25, h27, rfl, rfl, rfl⟩ | ⟨x, rfl, rfl, rfl, hop⟩ | ⟨x, y, rfl, rfl, rfl, ha⟩
    · rw [txt_int]
      exact ev9 hO (evP_int hn hs.dig)
    · rw [txt_str]
      exact ev9 hO (evP_str s r)
    · rw [txt_var]
      exact ev9 hO (evP_var hn hs)
    · have h9 : lvl (E.mk op 0 [] []).op = 9 := lvl_call (op := op) (by omega)
      rw [h9] at hO ⊢
      rw [txt_call0 ⟨h25, h27⟩, List.append_assoc]
      exact ev9 hO (evP_call0 (by omega) r)
    · have B := IH x (by simp)
      rcases hop with rfl | rfl | hop
      · rw [txt_not, List.append_assoc]
        exact evL_not (B 3 r x r (by decide) (by decide) hs hl (evO_stop (low_lvl (.inl rfl)))) hO
      · rw [txt_neg, List.append_assoc]
        exact evL_neg (B 8 r x r (by decide) (by decide) hs hl (evO_stop (low_lvl (.inr (.inl rfl))))) hO
      · have h9 : lvl (E.mk op 0 [] [x]).op = 9 := lvl_call (op := op) (by omega)
        rw [h9] at hO ⊢
        have hx := hargs x (by simp)
        have h1 := B 1 (41 :: r) x (41 :: r) (by decide) (by decide) (stop41 r) (low41 r _) (evO_low (low41 r _))
        have hp : par x.op (textS x) 1 = textS x := by unfold par; rw [if_neg (by have := (lvl_range x.op).1; omega)]
        rw [hp] at h1
        rw [txt_call1 hop]
        have h0 : wrd op ++ [40] ++ textS x ++ [41] ++ r = wrd op ++ 40 :: (textS x ++ 41 :: r) := by simp
        rw [h0]
        obtain ⟨c, t, hct, n1⟩ := (headE x hx).ne
        exact ev9 hO (evP_call1 (by omega) ⟨c, t ++ 41 :: r, by rw [hct]; rfl, n1⟩ h1)
    · have Bx := IH x (by simp)
      have By := IH y (by simp)
      obtain ⟨b1, b2, b3, b4, b5, b6, b7, b8⟩ := bin_lvl ha
      have hop : (E.mk op 0 [] [x, y]).op = op := rfl
      rw [hop] at hO hl ⊢
      rw [txt_bin ha]
      have h0 : par x.op (textS x) (lft op) ++ ([32] ++ (sgn op ++ ([32] ++ par y.op (textS y) (lvl op + 1)))) ++ r = par x.op (textS x) (lft op) ++ ([32] ++ (sgn op ++ ([32] ++ (par y.op (textS y) (lvl op + 1) ++ r)))) := by simp
      rw [h0]
      have hr := rsign_op ha (par y.op (textS y) (lvl op + 1) ++ r)
      have hy := By (lvl op + 1) r y r (by omega) (by omega) hs (hl.mono (by omega)) (evO_low hl)
      have st := evO_step (x := x) hr rfl hy hO
      have lw : ∀ k, lvl op < k → Low k ([32] ++ (sgn op ++ ([32] ++ (par y.op (textS y) (lvl op + 1) ++ r)))) := fun k hk o t ho => by
        rw [hr] at ho
        injection ho with ho
        injection ho with ho _
        rw [← ho]
        exact hk
      unfold lft
      by_cases h4 : lvl op = 4
      · rw [if_pos h4]
        have h5 := Bx 5 _ x _ (by decide) (by decide) (stop32 _) (lw 6 (by omega)) (evO_low (lw 5 (by omega)))
        refine evL_down (fun h => by omega) (fun h => by omega) (by omega) ?_ st
        have e5 : lvl op + 1 = 5 := by omega
        exact evL_eq e5 h5
      · rw [if_neg h4]
        exact Bx (lvl op) _ X R b7 (by omega) (stop32 _) (lw _ (by omega)) st
theorem backE (e : E) (hv : VE e) : Back e := back_of hv (back1E e hv)
/-- at the lowest level: what stands behind is no sign -/
theorem readX {e : E} (hv : VE e) {r : Bytes} (hs : Stop r) (hr : rsign r = none) : EvL 1 (textS e ++ r) e r := by
  have h := backE e hv 1 r e r (by decide) (by decide) hs (low_none hr _) (evO_low (low_none hr _))
  have hp : par e.op (textS e) 1 = textS e := by unfold par; rw [if_neg (by have := (lvl_range e.op).1; omega)]
  rwa [hp] at h
theorem EvL.inj {k : Int} {s : Bytes} {x y : E} {r q : Bytes} (h1 : EvL k s x r) (h2 : EvL k s y q) : x = y ∧ r = q := by
  obtain ⟨a, ha⟩ := h1
  obtain ⟨b, hb⟩ := h2
  have h1 := ha (a + b) (by omega)
  rw [hb (a + b) (by omega)] at h1
  injection h1 with h1
  injection h1 with h1 h2
  exact ⟨h1.symm, h2.symm⟩
theorem textS_inj {x y : E} (hx : chkE x 1 = 0) (hy : chkE y 1 = 0) (h : textS x = textS y) : x = y := by
  have h1 := readX ⟨1, by decide, hx⟩ stop_nil rsign_nil
  have h2 := readX ⟨1, by decide, hy⟩ stop_nil rsign_nil
  rw [h] at h1
  exact (h1.inj h2).1
end Go.Proofs.YtfflfaedghfmdaaDoor
