/- The lines of a text: the plain part. -/
import Derived.Test.YtfflfaedghfmdaaDoorSeatN
import Derived.Test.YtfflfaedghfmdaaDoorSeatL
import Derived.Test.YtfflfaedghfmdaaDoorSeatA
set_option linter.unusedVariables false
set_option linter.unusedSimpArgs false
set_option linter.all false
set_option linter.deprecated false
set_option linter.all false
namespace Go.Proofs.YtfflfaedghfmdaaDoor
open Go.Abs
set_option maxRecDepth 100000
/-! no line's end inside -/
def NoNl (s : Bytes) : Prop := ∀ x ∈ s, x ≠ 10
theorem NoNl.app {s t : Bytes} (h : NoNl s) (h' : NoNl t) : NoNl (s ++ t) := fun x hx => by
  rcases List.mem_append.1 hx with hx | hx
  · exact h x hx
  · exact h' x hx
theorem nn_of {s : Bytes} (h : (s.all fun x => x != 10) = true) : NoNl s := fun x hx => by
  have := List.all_eq_true.1 h x hx
  simpa using this
theorem nn_flat : ∀ l : List Bytes, (∀ s ∈ l, NoNl s) → NoNl l.flatten
  | [], _ => fun x hx => by cases hx
  | s :: l, h => by
    rw [List.flatten_cons]
    exact (h s (by simp)).app (nn_flat l fun t ht => h t (by simp [ht]))
theorem nn_word {s : Bytes} (h : WordOk s) : NoNl s := fun x hx => by
  rintro rfl
  have := h.part _ hx
  cases this
theorem nn_itoa {n : Int} (h : 0 ≤ n) : NoNl (Lib.itoa n) := fun x hx => by
  rw [itoa_pos h] at hx
  have := (dec_dig n.toNat).1 x hx
  rintro rfl
  cases this
theorem nn_quote {s : Bytes} (h : plainS s = true) : NoNl (quoteS s) := by
  unfold plainS at h
  rw [Bool.and_eq_true] at h
  have h1 := List.all_eq_true.1 h.1
  have he : NoNl (escS s) := fun x hx => by
    obtain ⟨c, hc, hx⟩ := List.mem_flatMap.1 hx
    have hin := h1 c hc
    rintro rfl
    unfold esc at hx
    split at hx
    · simp only [List.mem_cons, List.not_mem_nil, or_false] at hx
      rcases hx with hx | hx
      · revert hx; decide
      · subst hx; revert hin; decide
    · simp only [List.mem_cons, List.not_mem_nil, or_false] at hx
      subst hx; revert hin; decide
  unfold quoteS
  exact NoNl.app (s := [34]) (nn_of (by decide)) (he.app (nn_of (by decide)))
theorem nn_par {op : Int} {t : Bytes} (h : NoNl t) (k : Int) : NoNl (par op t k) := by
  unfold par
  split
  · exact NoNl.app (s := [40]) (nn_of (by decide)) (h.app (nn_of (by decide)))
  · exact h
theorem nn_ite {p : Prop} [Decidable p] {a b : Bytes} (h1 : NoNl a) (h2 : NoNl b) : NoNl (if p then a else b) := by
  split
  · exact h1
  · exact h2
theorem nn_sgn (op : Int) : NoNl (sgn op) := by
  unfold sgn
  repeat' (refine nn_ite (nn_of (by decide)) ?_)
  exact nn_of (by decide)
theorem nn_wrd (op : Int) : NoNl (wrd op) := by
  unfold wrd
  repeat' (refine nn_ite (nn_of (by decide)) ?_)
  exact nn_of (by decide)
theorem VE.plain {n d : Int} {s : Bytes} (h : VE (.mk 2 n s [])) : plainS s = true := by
  obtain ⟨d, h0d, hv⟩ := h
  rw [chkE_zero] at hv
  exact (nodeS_more hv.1).1 rfl
theorem nn_text : ∀ e, VE e → NoNl (textS e) := by
  intro e
  induction e using E.ind with
  | h op n s args ih =>
    intro hv
    obtain ⟨hargs, hc⟩ := hv.parts
    rcases hc with ⟨rfl, hn, rfl, rfl⟩ | ⟨rfl, rfl, rfl⟩ | ⟨rfl, rfl, hs, rfl⟩ | ⟨h25, h27, rfl, rfl, rfl⟩ | ⟨x, rfl, rfl, rfl, hop⟩ | ⟨x, y, rfl, rfl, rfl, ha⟩
    · rw [txt_int]; exact nn_itoa hn
    · rw [txt_str]; exact nn_quote (VE.plain (d := 0) hv)
    · rw [txt_var]; exact nn_word hs.toWordOk
    · rw [txt_call0 ⟨h25, h27⟩]; exact (nn_wrd op).app (nn_of (by decide))
    · have hx := ih x (by simp) (hargs x (by simp))
      rcases hop with rfl | rfl | hop
      · rw [txt_not]; exact (nn_of (by decide)).app (nn_par hx _)
      · rw [txt_neg]; exact (nn_of (by decide)).app (nn_par hx _)
      · rw [txt_call1 hop]; exact (((nn_wrd op).app (nn_of (by decide))).app hx).app (nn_of (by decide))
    · have hx := ih x (by simp) (hargs x (by simp))
      have hy := ih y (by simp) (hargs y (by simp))
      rw [txt_bin ha]
      exact (nn_par hx _).app ((nn_of (by decide)).app ((nn_sgn op).app ((nn_of (by decide)).app (nn_par hy _))))
/-! the law's state -/
structure LS where
  opn : Int
  cur : Bytes
  cnt : Nat
def fch (w : Bytes) : Option UInt8 := (w.dropWhile (fun x => x == 32)).head?
def mid (o : Int) (w : Bytes) : Int := if fch w = some 125 then o - 1 else o
def nxt (o : Int) (w : Bytes) : Int := if w.getLast? = some 123 then mid o w + 1 else mid o w
def stp (st : LS) (c : UInt8) : LS := if c = 10 then ⟨nxt st.opn st.cur, [], st.cnt + 1⟩ else ⟨st.opn, st.cur ++ [c], st.cnt⟩
/-- the line is as the law asks -/
structure LnOk (st : LS) : Prop where
  ex : ∃ (k : Nat) (c l : UInt8), (∀ j, j < k → st.cur[j]? = some 32) ∧ st.cur[k]? = some c ∧ c ≠ 32 ∧ fch st.cur = some c ∧ st.cur[st.cur.length - 1]? = some l ∧ st.cur.getLast? = some l ∧
    (l = 123 ∨ l = 59 ∨ l = 125) ∧ (k : Int) = 4 * mid st.opn st.cur ∧ (mid st.opn st.cur = 0 → 1 ≤ st.cnt → st.cur = [125]) ∧ 0 ≤ mid st.opn st.cur ∧ mid st.opn st.cur ≤ 20
def Good1 (st : LS) (s : Bytes) (st' : LS) : Prop := s.foldl stp st = st' ∧ ∀ pre suf, s = pre ++ 10 :: suf → LnOk (pre.foldl stp st)
theorem Good1.app {a b c : LS} {s t : Bytes} (h : Good1 a s b) (h' : Good1 b t c) : Good1 a (s ++ t) c := by
  refine ⟨by rw [List.foldl_append, h.1, h'.1], fun pre suf hp => ?_⟩
  rcases List.append_eq_append_iff.1 hp with ⟨u, hu1, hu2⟩ | ⟨u, hu1, hu2⟩
  · rw [hu1, List.foldl_append, h.1]
    exact h'.2 u suf hu2
  · cases u with
    | nil =>
      rw [List.append_nil] at hu1
      rw [List.nil_append] at hu2
      rw [← hu1, h.1]
      exact h'.2 [] suf hu2.symm
    | cons d u =>
      rw [List.cons_append] at hu2
      injection hu2 with hd _
      subst hd
      exact h.2 pre u hu1
theorem fold_line : ∀ (w : Bytes) (o : Int) (c : Bytes) (n : Nat), NoNl w → w.foldl stp ⟨o, c, n⟩ = ⟨o, c ++ w, n⟩
  | [], o, c, n, _ => by simp
  | x :: w, o, c, n, h => by
    have hx : x ≠ 10 := h x (by simp)
    have hs : stp ⟨o, c, n⟩ x = ⟨o, c ++ [x], n⟩ := by unfold stp; rw [if_neg hx]
    rw [List.foldl_cons, hs, fold_line w o _ n fun y hy => h y (by simp [hy])]
    simp
theorem split_line : ∀ (w pre suf : Bytes), NoNl w → w ++ [10] = pre ++ 10 :: suf → pre = w
  | [], [], _, _, _ => rfl
  | [], x :: pre, suf, _, h => by
    rw [List.nil_append, List.cons_append] at h
    injection h with _ h
    have := congrArg List.length h
    simp at this
  | x :: w, [], suf, hw, h => by
    rw [List.cons_append, List.nil_append] at h
    injection h with h _
    exact absurd h (hw x (by simp))
  | x :: w, y :: pre, suf, hw, h => by
    rw [List.cons_append, List.cons_append] at h
    injection h with h1 h2
    rw [h1, split_line w pre suf (fun z hz => hw z (by simp [hz])) h2]
theorem good_line {o : Int} {n : Nat} {w : Bytes} (hw : NoNl w) (h : LnOk ⟨o, w, n⟩) : Good1 ⟨o, [], n⟩ (w ++ [10]) ⟨nxt o w, [], n + 1⟩ := by
  have hf := fold_line w o [] n hw
  rw [List.nil_append] at hf
  refine ⟨by rw [List.foldl_append, hf]; rfl, fun pre suf hp => ?_⟩
  rw [split_line w pre suf hw hp, hf]
  exact h
theorem ind_32 (d : Nat) : ∀ x ∈ indS d, x = 32 := by
  induction d with
  | zero => intro x hx; cases hx
  | succ d ih =>
    intro x hx
    rw [indS_succ] at hx
    rcases List.mem_append.1 hx with hx | hx
    · exact ih x hx
    · simp at hx; exact hx
theorem drop32 : ∀ (a : Bytes) (c : UInt8) (t : Bytes), (∀ x ∈ a, x = 32) → c ≠ 32 → (a ++ c :: t).dropWhile (fun x => x == 32) = c :: t
  | [], c, t, _, hc => by
    have : (c == 32) = false := by simpa using hc
    rw [List.nil_append, List.dropWhile_cons, this, if_neg (by simp)]
  | x :: a, c, t, h, hc => by
    have hx := h x (by simp)
    subst hx
    rw [List.cons_append, List.dropWhile_cons, if_pos (by rfl)]
    exact drop32 a c t (fun y hy => h y (by simp [hy])) hc
theorem lineG {d : Nat} {parts : List Bytes} {b : Bytes} {c l : UInt8} {t : Bytes} {o o' : Int} {n : Nat} (hp : parts.flatten = b) (hb : b = c :: t) (hc : c ≠ 32) (h10 : NoNl b) (hl : b.getLast? = some l) (h3 : l = 123 ∨ l = 59 ∨ l = 125)
    (ho : (if c = 125 then o - 1 else o) = (d : Int)) (hz : d = 0 → 1 ≤ n → b = [125]) (hd : d ≤ 20) (ho' : (if l = 123 then (d : Int) + 1 else d) = o') : Good1 ⟨o, [], n⟩ (lineS d parts) ⟨o', [], n + 1⟩ := by
  have hfc : fch (indS d ++ b) = some c := by
    unfold fch
    rw [hb, drop32 _ _ _ (ind_32 d) hc]
    rfl
  have hm : mid o (indS d ++ b) = d := by
    unfold mid
    rw [hfc, ← ho]
    simp
  have hbn : b ≠ [] := by rw [hb]; simp
  have hgl : (indS d ++ b).getLast? = some l := by rw [List.getLast?_append, hl]; rfl
  have hnx : nxt o (indS d ++ b) = o' := by
    unfold nxt
    rw [hgl, hm, ← ho']
    simp
  have hw : NoNl (indS d ++ b) := NoNl.app (fun x hx => by rw [ind_32 d x hx]; decide) h10
  have hg := good_line (o := o) (n := n) hw ⟨4 * d, c, l, fun j hj => ?_, ?_, hc, hfc, ?_, hgl, h3, by rw [hm]; omega, fun h0 h1 => ?_, by rw [hm]; omega, by rw [hm]; omega⟩
  · rw [hnx] at hg
    unfold lineS
    rw [hp, ← List.append_assoc]
    exact hg
  · have hj' : j < (indS d).length := by rw [indS_len]; exact hj
    change (indS d ++ b)[j]? = some 32
    rw [List.getElem?_append_left hj', List.getElem?_eq_getElem hj', ind_32 d _ (List.getElem_mem hj')]
  · change (indS d ++ b)[4 * d]? = some c
    rw [List.getElem?_append_right (by rw [indS_len]; exact Nat.le_refl _), indS_len, Nat.sub_self, hb]
    rfl
  · rw [← hgl, List.getLast?_eq_getElem?]
  · have hd0 : d = 0 := by
      have : mid o (indS d ++ b) = 0 := h0
      rw [hm] at this
      omega
    change indS d ++ b = [125]
    rw [hz hd0 h1, hd0]
    rfl
end Go.Proofs.YtfflfaedghfmdaaDoor
set_option linter.all false
namespace Go.Proofs.YtfflfaedghfmdaaDoor
open Go.Abs
set_option maxRecDepth 100000
/-- a line with something before its last byte -/
theorem lineX {d : Nat} {parts : List Bytes} {X : Bytes} {c l : UInt8} {t : Bytes} {o o' : Int} {n : Nat} (hp : parts.flatten = X ++ [l]) (hb : X = c :: t) (hc : c ≠ 32) (h10 : NoNl X) (hl : l ≠ 10) (h3 : l = 123 ∨ l = 59 ∨ l = 125)
    (ho : (if c = 125 then o - 1 else o) = (d : Int)) (hz : d = 0 → 1 ≤ n → False) (hd : d ≤ 20) (ho' : (if l = 123 then (d : Int) + 1 else d) = o') : Good1 ⟨o, [], n⟩ (lineS d parts) ⟨o', [], n + 1⟩ :=
  lineG (b := X ++ [l]) (t := t ++ [l]) hp (by rw [hb]; rfl) hc (h10.app (fun x hx => by rw [List.mem_singleton] at hx; rw [hx]; exact hl)) (List.getLast?_concat ..) h3 ho (fun h h' => (hz h h').elim) hd ho'
/-- a closing line -/
theorem lineC {d n : Nat} (hd : d ≤ 20) : Good1 ⟨(d : Int) + 1, [], n⟩ (lineS d [[125]]) ⟨d, [], n + 1⟩ :=
  lineG (b := [125]) (c := 125) (l := 125) (t := []) rfl rfl (by decide) (nn_of (by decide)) rfl (by decide) (by rw [if_pos rfl]; omega) (fun _ _ => rfl) hd (by rw [if_neg (by decide)])
theorem lineElse {d n : Nat} (hd : 1 ≤ d) (hd' : d ≤ 20) : Good1 ⟨(d : Int) + 1, [], n⟩ (lineS d [[125, 32, 101, 108, 115, 101, 32, 123]]) ⟨(d : Int) + 1, [], n + 1⟩ :=
  lineX (X := [125, 32, 101, 108, 115, 101, 32]) (c := 125) (l := 123) (t := [32, 101, 108, 115, 101, 32]) rfl rfl (by decide) (nn_of (by decide)) (by decide) (by decide) (by rw [if_pos rfl]; omega) (fun _ _ => by omega) hd' (by rw [if_pos rfl])
def SegS (x : Stm) (d : Nat) : Prop := ∀ n, 1 ≤ n → ∃ m, n ≤ m ∧ Good1 ⟨(d : Int), [], n⟩ (stS x d) ⟨(d : Int), [], m⟩
theorem Good1.nil (a : LS) : Good1 a [] a := ⟨rfl, fun pre suf h => by cases pre <;> cases h⟩
theorem segB {d : Nat} : ∀ l : List Stm, (∀ x ∈ l, SegS x d) → ∀ n, 1 ≤ n → ∃ m, n ≤ m ∧ Good1 ⟨(d : Int), [], n⟩ (ssS l d) ⟨(d : Int), [], m⟩
  | [], _, n, _ => ⟨n, Nat.le_refl _, by rw [ssS]; exact Good1.nil _⟩
  | x :: l, h, n, hn => by
    obtain ⟨m, hm, g⟩ := h x (by simp) n hn
    obtain ⟨k, hk, g'⟩ := segB l (fun y hy => h y (by simp [hy])) m (by omega)
    exact ⟨k, by omega, by rw [ssS]; exact g.app g'⟩
theorem nn_chk {e : E} (h : chkE e 1 = 0) : NoNl (textS e) := nn_text e ⟨1, by decide, h⟩
theorem word_ne {s : Bytes} (h : WordOk s) : ∃ c t, s = c :: t ∧ c ≠ 125 ∧ c ≠ 32 := by
  cases s with
  | nil => exact absurd rfl h.ne
  | cons c t =>
    have h1 := h.low c t rfl
    exact ⟨c, t, rfl, by rintro rfl; revert h1; decide, by rintro rfl; revert h1; decide⟩
theorem max_nn {x : Stm} {d : Int} (h : stmtS x d = 0) : 0 ≤ x.max := by
  unfold stmtS at h
  split at h
  · cases h
  rename_i h1
  simp only [Bool.or_eq_true, Bool.not_eq_true', Bool.and_eq_false_iff, not_or, Bool.not_eq_false, Bool.not_eq_true] at h1
  obtain ⟨_, h2, h3⟩ := h1
  simp only [badF, Bool.or_eq_false_iff, Bool.and_eq_false_iff, Bool.not_eq_false'] at h2
  obtain ⟨⟨⟨_, h4⟩, _⟩, _⟩ := h2
  unfold maxOk at h3
  split at h3
  · simp at h3; omega
  split at h3
  · simp at h3; omega
  · rename_i n6 n8
    simp at n6 n8
    rcases h4 with h4 | h4
    · unfold uM at h4; simp [n6, n8] at h4
    · have : x.max = 0 := by simpa using h4
      omega
theorem dpos {d : Nat} (h : 1 ≤ d) {p : Prop} : d = 0 → p := fun h' => by omega
theorem stmG : ∀ x : Stm, ∀ d : Nat, 1 ≤ d → (∀ y k, Vis.s y k ∈ visS x d → stmtS y k = 0) → SegS x d := by
  intro x
  induction x using Stm.ind with
  | h op name max a b body els ih1 ih2 =>
    intro d hd1 hv
    have hz := hv _ _ (vis_self _ _)
    have hs := stmtS_zero hz
    have hm := max_nn hz
    obtain ⟨ho, hn, hnn, ha, hna, hb, hnb, hbo, hel, hd⟩ := hs
    simp only [Stm.op, Stm.name, Stm.a, Stm.b, Stm.body, Stm.els, Stm.max] at ho hn hnn ha hna hb hnb hbo hel hm
    have hw : IntKind.i64.wrap ((d : Int) + 1) = ((d + 1 : Nat) : Int) := by rw [wrap_in] <;> omega
    have B1 := segB (d := d + 1) body fun y hy => ih1 y hy (d + 1) (by omega) fun z k hz => hv z k (vis_body _ (by rw [hw]; exact visSs_mem hy _ _ hz))
    have B2 := segB (d := d + 1) els fun y hy => ih2 y hy (d + 1) (by omega) fun z k hz => hv z k (vis_els _ (by rw [hw]; exact visSs_mem hy _ _ hz))
    intro n hn1
    rw [stS]
    have hd20 : d ≤ 20 := by omega
    have e1 : ((d + 1 : Nat) : Int) = (d : Int) + 1 := by omega
    rw [e1] at B1 B2
    have cases8 : op = 1 ∨ op = 2 ∨ op = 3 ∨ op = 4 ∨ op = 5 ∨ op = 6 ∨ op = 7 ∨ op = 8 := by omega
    rcases cases8 with rfl | rfl | rfl | rfl | rfl | rfl | rfl | rfl
    · rw [if_pos rfl]
      have na := nn_chk (ha rfl)
      have nm := nn_word (nameOk (hn rfl)).toWordOk
      exact ⟨n + 1, by omega, lineX (l := 59) (c := 108) (X := [108, 101, 116, 32] ++ name ++ [32, 61, 32] ++ textS a) (t := [101, 116, 32] ++ name ++ [32, 61, 32] ++ textS a) (by simp) rfl (by decide) ((((nn_of (by decide)).app nm).app (nn_of (by decide))).app na) (by decide) (by decide) (by rw [if_neg (by decide)]) (dpos hd1) hd20 (by rw [if_neg (by decide)])⟩
    · rw [if_neg (by decide), if_pos rfl]
      have na := nn_chk (ha rfl)
      have nw := (nameOk (hn rfl)).toWordOk
      have nm := nn_word nw
      obtain ⟨c, t, hct, c1, c2⟩ := word_ne nw
      exact ⟨n + 1, by omega, lineX (l := 59) (c := c) (X := name ++ [32, 61, 32] ++ textS a) (t := t ++ [32, 61, 32] ++ textS a) (by simp) (by rw [hct]; rfl) c2 ((nm.app (nn_of (by decide))).app na) (by decide) (by decide) (by rw [if_neg c1]) (dpos hd1) hd20 (by rw [if_neg (by decide)])⟩
    · rw [if_neg (by decide), if_neg (by decide), if_pos rfl]
      have na := nn_chk (ha rfl)
      have nb := nn_chk (hb rfl)
      exact ⟨n + 1, by omega, lineX (l := 59) (c := 112) (X := [112, 117, 116, 32] ++ textS a ++ [32, 61, 32] ++ textS b) (t := [117, 116, 32] ++ textS a ++ [32, 61, 32] ++ textS b) (by simp) rfl (by decide) ((((nn_of (by decide)).app na).app (nn_of (by decide))).app nb) (by decide) (by decide) (by rw [if_neg (by decide)]) (dpos hd1) hd20 (by rw [if_neg (by decide)])⟩
    · rw [if_neg (by decide), if_neg (by decide), if_neg (by decide), if_pos rfl]
      have na := nn_chk (ha rfl)
      exact ⟨n + 1, by omega, lineX (l := 59) (c := 100) (X := [100, 101, 108, 101, 116, 101, 32] ++ textS a) (t := [101, 108, 101, 116, 101, 32] ++ textS a) (by simp) rfl (by decide) ((nn_of (by decide)).app na) (by decide) (by decide) (by rw [if_neg (by decide)]) (dpos hd1) hd20 (by rw [if_neg (by decide)])⟩
    · rw [if_neg (by decide), if_neg (by decide), if_neg (by decide), if_neg (by decide), if_pos rfl]
      have na := nn_chk (ha rfl)
      have g1 : Good1 ⟨(d : Int), [], n⟩ (lineS d [[105, 102, 32], textS a, [32, 123]]) ⟨(d : Int) + 1, [], n + 1⟩ := lineX (l := 123) (c := 105) (X := [105, 102, 32] ++ textS a ++ [32]) (t := [102, 32] ++ textS a ++ [32]) (by simp) rfl (by decide) (((nn_of (by decide)).app na).app (nn_of (by decide))) (by decide) (by decide) (by rw [if_neg (by decide)]) (dpos hd1) hd20 (by rw [if_pos rfl])
      obtain ⟨m, hm, g2⟩ := B1 (n + 1) (by omega)
      cases els with
      | nil =>
        rw [if_neg (by simp), List.nil_append]
        exact ⟨m + 1, by omega, g1.app (g2.app (lineC hd20))⟩
      | cons y els =>
        rw [if_pos (by simp), List.append_assoc]
        obtain ⟨k, hk, g3⟩ := B2 (m + 1) (by omega)
        exact ⟨k + 1, by omega, g1.app (g2.app ((lineElse hd1 hd20).app (g3.app (lineC hd20))))⟩
    · rw [if_neg (by decide), if_neg (by decide), if_neg (by decide), if_neg (by decide), if_neg (by decide), if_pos rfl]
      have na := nn_chk (ha rfl)
      have nb := nn_chk (hb rfl)
      have nm := nn_word (nameOk (hn rfl)).toWordOk
      have ni := nn_itoa hm
      have g1 : Good1 ⟨(d : Int), [], n⟩ (lineS d [[102, 111, 114, 32], name, [32, 61, 32], textS a, [32, 116, 111, 32], textS b, [32, 109, 97, 120, 32], Lib.itoa max, [32, 123]]) ⟨(d : Int) + 1, [], n + 1⟩ :=
        lineX (l := 123) (c := 102) (X := [102, 111, 114, 32] ++ name ++ [32, 61, 32] ++ textS a ++ [32, 116, 111, 32] ++ textS b ++ [32, 109, 97, 120, 32] ++ Lib.itoa max ++ [32]) (t := [111, 114, 32] ++ name ++ [32, 61, 32] ++ textS a ++ [32, 116, 111, 32] ++ textS b ++ [32, 109, 97, 120, 32] ++ Lib.itoa max ++ [32]) (by simp) rfl (by decide)
          (((((((((nn_of (by decide)).app nm).app (nn_of (by decide))).app na).app (nn_of (by decide))).app nb).app (nn_of (by decide))).app ni).app (nn_of (by decide))) (by decide) (by decide) (by rw [if_neg (by decide)]) (dpos hd1) hd20 (by rw [if_pos rfl])
      obtain ⟨m, hm, g2⟩ := B1 (n + 1) (by omega)
      exact ⟨m + 1, by omega, g1.app (g2.app (lineC hd20))⟩
    · rw [if_neg (by decide), if_neg (by decide), if_neg (by decide), if_neg (by decide), if_neg (by decide), if_neg (by decide), if_pos rfl]
      have na := nn_chk (ha rfl)
      exact ⟨n + 1, by omega, lineX (l := 59) (c := 101) (X := [101, 109, 105, 116, 32] ++ textS a) (t := [109, 105, 116, 32] ++ textS a) (by simp) rfl (by decide) ((nn_of (by decide)).app na) (by decide) (by decide) (by rw [if_neg (by decide)]) (dpos hd1) hd20 (by rw [if_neg (by decide)])⟩
    · rw [if_neg (by decide), if_neg (by decide), if_neg (by decide), if_neg (by decide), if_neg (by decide), if_neg (by decide), if_neg (by decide)]
      have ni := nn_itoa hm
      exact ⟨n + 1, by omega, lineX (l := 59) (c := 97) (X := [97, 98, 111, 114, 116, 32] ++ Lib.itoa max) (t := [98, 111, 114, 116, 32] ++ Lib.itoa max) (by simp) rfl (by decide) ((nn_of (by decide)).app ni) (by decide) (by decide) (by rw [if_neg (by decide)]) (dpos hd1) hd20 (by rw [if_neg (by decide)])⟩
theorem nn_join {s : Bytes} (hs : NoNl s) : ∀ l : List Bytes, (∀ x ∈ l, NoNl x) → NoNl (joinB s l)
  | [], _ => fun x hx => by cases hx
  | [x], h => by rw [joinB]; exact h x (by simp)
  | x :: y :: l, h => by
    have h2 := nn_join hs (y :: l) fun z hz => h z (by simp at hz ⊢; exact .inr hz)
    have : joinB s (x :: y :: l) = x ++ (s ++ joinB s (y :: l)) := by rw [joinB]; simp
    rw [this]
    exact (h x (by simp)).app (hs.app h2)
theorem nn_ty (t : Int) : NoNl (tyWord t) := by
  unfold tyWord
  exact nn_ite (nn_of (by decide)) (nn_ite (nn_of (by decide)) (nn_of (by decide)))
/-- the text of a valid procedure is as the law asks -/
theorem procG {p : Pr} (V : Vld p) : ∃ m, 2 ≤ m ∧ Good1 ⟨0, [], 0⟩ (procT p) ⟨0, [], m⟩ := by
  obtain ⟨_, hp⟩ := prms V
  have nm := nn_word (nameOk V.name).toWordOk
  have nj : NoNl (joinB [44, 32] (p.params.map pmS)) := nn_join (nn_of (by decide)) _ fun x hx => by
    obtain ⟨y, hy, rfl⟩ := List.mem_map.1 hx
    exact ((nn_word (nameOk (hp y hy).1).toWordOk).app (nn_of (by decide))).app (nn_ty _)
  have g1 : Good1 ⟨(0 : Int), [], 0⟩ (lineS 0 (headS p)) ⟨((1 : Nat) : Int), [], 0 + 1⟩ :=
    lineX (l := 123) (c := 112) (X := [112, 114, 111, 99, 32] ++ p.name ++ [40] ++ joinB [44, 32] (p.params.map pmS) ++ [41, 32]) (t := [114, 111, 99, 32] ++ p.name ++ [40] ++ joinB [44, 32] (p.params.map pmS) ++ [41, 32]) (by unfold headS; simp) rfl (by decide)
      (((((nn_of (by decide)).app nm).app (nn_of (by decide))).app nj).app (nn_of (by decide))) (by decide) (by decide) (by rw [if_neg (by decide)]; rfl) (fun _ h => by omega) (by omega) (by rw [if_pos rfl]; rfl)
  obtain ⟨m, hm, g2⟩ := segB (d := 1) p.body (fun x hx => stmG x 1 (by decide) fun y k hy => V.stm y k (visSs_mem hx _ _ hy)) (0 + 1) (by decide)
  refine ⟨m + 1, by omega, ?_⟩
  unfold procT
  exact (g1.app g2).app (lineC (d := 0) (by decide))
end Go.Proofs.YtfflfaedghfmdaaDoor
set_option linter.all false
namespace Go.Proofs.YtfflfaedghfmdaaDoor
open Go.Abs
attribute [local congr] ite_congr
set_option maxRecDepth 100000
def st0 : LS := ⟨0, [], 0⟩
def stA (pre : Bytes) : LS := pre.foldl stp st0
theorem stA_snoc (pre : Bytes) (x : UInt8) : stA (pre ++ [x]) = stp (stA pre) x := by unfold stA; rw [List.foldl_append]; rfl
theorem snoc_ind {α : Type} {P : List α → Prop} (h0 : P []) (h : ∀ l x, P l → P (l ++ [x])) (l : List α) : P l := by
  have key : ∀ l : List α, P l.reverse := by
    intro l
    induction l with
    | nil => exact h0
    | cons x l ih => rw [List.reverse_cons]; exact h _ x ih
  have := key l.reverse
  rwa [List.reverse_reverse] at this
theorem cur_end (pre : Bytes) : (stA pre).cur.length ≤ pre.length ∧ pre.drop (pre.length - (stA pre).cur.length) = (stA pre).cur ∧ (stA pre).cnt ≤ pre.length := by
  induction pre using snoc_ind with
  | h0 => exact ⟨Nat.le_refl _, rfl, Nat.le_refl _⟩
  | h pre x ih =>
    obtain ⟨h1, h2, h3⟩ := ih
    rw [stA_snoc]
    unfold stp
    by_cases hx : x = 10
    · rw [if_pos hx]
      refine ⟨Nat.zero_le _, ?_, by simp; omega⟩
      simp
    · rw [if_neg hx]
      refine ⟨by simp; omega, ?_, by simp; omega⟩
      have e : (pre ++ [x]).length - ((stA pre).cur ++ [x]).length = pre.length - (stA pre).cur.length := by simp
      change (pre ++ [x]).drop ((pre ++ [x]).length - ((stA pre).cur ++ [x]).length) = (stA pre).cur ++ [x]
      rw [e, List.drop_append_of_le_length (by omega), h2]
theorem u8_of {x : UInt8} {n : Nat} (h : (x.toNat : Int) = (n : Int)) {y : UInt8} (hy : y.toNat = n := by rfl) : x = y := UInt8.toNat_inj.1 (by omega)
theorem v123 : ((123 : UInt8).toNat : Int) = 123 := by decide
theorem v59 : ((59 : UInt8).toNat : Int) = 59 := by decide
theorem v125 : ((125 : UInt8).toNat : Int) = 125 := by decide
def frA (pre : Bytes) : Nat := pre.length - (stA pre).cur.length
set_option maxHeartbeats 8000000 in
theorem lawPrinterLines (p : Pr) (hp : p.Ok) (A : AHeap) : acl C 5 [Pr.av p] A = some (.d (.bool true), A) := by
  have wk := works A
  have v1 := validate p hp A
  have t1 := procP p hp A
  rw [k_call (c := C) (f := 5) rfl Tryd.func5 rfl (ok 5 (by kernel_rfl)) rfl Tryd.ntmps5 Tryd.results5 (by simp)]
  cases h1 : decide (valS p = 0) with
  | false =>
    have e1 : procS p = [] := by unfold procS; rw [if_neg (of_decide_eq_false h1)]
    rw [e1] at t1
    simp (maxSteps := 1000000) only [go_sem, acondK_bool, acB_merge, Nat.reduceLT, Nat.reduceLeDiff, Nat.reduceEqDiff, Nat.reduceAdd, Nat.reduceSub, Nat.reduceMul, Nat.reduceBEq, Nat.reduceBNe, Nat.reduceBneDiff, Nat.reduceBeqDiff, Int.reduceToNat, Int.reduceLE, Int.reduceLT, Int.reduceEq, Int.reduceNe, Int.reduceNeg, Int.reduceAdd, Int.reduceSub, ↓reduceIte, reduceCtorEq, v1, t1, h1, wk]
  | true =>
  have hlen := procS_len hp
  have e1 : procS p = procT p := by unfold procS; rw [if_pos (of_decide_eq_true h1)]
  obtain ⟨m, hm, hg1, hg2⟩ := procG ((valS_zero p).1 (of_decide_eq_true h1))
  have hd5 : (procT p).take 5 = [112, 114, 111, 99, 32] ∧ 5 < (procT p).length := by
    unfold procT headS lineS
    constructor
    · rfl
    · simp; omega
  rw [e1] at t1 hlen
  generalize procT p = s at *
  simp (maxSteps := 1000000) only [go_sem, acondK_bool, acB_merge, Nat.reduceLT, Nat.reduceLeDiff, Nat.reduceEqDiff, Nat.reduceAdd, Nat.reduceSub, Nat.reduceMul, Nat.reduceBEq, Nat.reduceBNe, Nat.reduceBneDiff, Nat.reduceBeqDiff, Int.reduceToNat, Int.reduceLE, Int.reduceLT, Int.reduceEq, Int.reduceNe, Int.reduceNeg, Int.reduceAdd, Int.reduceSub, ↓reduceIte, reduceCtorEq, v1, t1, h1]
  refine loop_any (fun pre => [(7, .v (.d (.int .i64 (pre.length : Nat)))), (3, .v (.d (.str s))), (5, .v (.d (.int .i64 (frA pre : Nat)))), (6, .v (.d (.int .i64 ((stA pre).cnt : Nat)))), (4, .v (.d (.int .i64 (stA pre).opn)))]) (fun _ => A) (fun _ _ => some (.d (.bool true), A)) s rfl rfl rfl ?_
  intro pre suf hl ih
  obtain ⟨c1, c2, c3⟩ := cur_end pre
  have hpl : pre.length ≤ s.length := by rw [hl]; simp
  cases suf with
  | nil =>
    rw [List.append_nil] at hl
    subst hl
    have e1 : decide ((s.length : Int) < (s.length : Int)) = false := by simp
    have hst : stA s = ⟨0, [], m⟩ := hg1
    have hfr : frA s = s.length := by unfold frA; rw [hst]; rfl
    rw [hst, hfr]
    have e2 : decide ((2 : Int) ≤ ((m : Nat) : Int)) = true := decT (by omega)
    have e3 : decide ((5 : Int) < ((s.length : Nat) : Int)) = true := decT (by omega)
    have e4 : asliL C 9 (some (.d (.str s))) (some (.d (.int .i64 5))) = some (.d (.str [112, 114, 111, 99, 32])) := by
      have hs : strT C.P 9 = true := by rfl
      have h5 : (5 : Int) ≤ (s.length : Int) := by omega
      have h6 : (5 : Int).toNat = 5 := rfl
      simp only [asliL, AV.plainS, hs, h5, h6, hd5.1, true_and]
      rfl
    simp (maxSteps := 1000000) only [go_sem, acondK_bool, acB_merge, Nat.reduceLT, Nat.reduceLeDiff, Nat.reduceEqDiff, Nat.reduceAdd, Nat.reduceSub, Nat.reduceMul, Nat.reduceBEq, Nat.reduceBNe, Nat.reduceBneDiff, Nat.reduceBeqDiff, Int.reduceToNat, Int.reduceLE, Int.reduceLT, Int.reduceEq, Int.reduceNe, Int.reduceNeg, Int.reduceAdd, Int.reduceSub, ↓reduceIte, reduceCtorEq, e1, e2, e3, e4, wk]
    rfl
  | cons x suf =>
    have e1 : decide ((pre.length : Int) < (s.length : Int)) = true := by rw [hl]; simp; omega
    have e2 : s[pre.length]? = some x := by rw [hl]; simp
    have i2 : aidxG C 9 (some (.d (.str s))) (some (.d (.int .i64 (pre.length : Int)))) = some (.d (.int .u8 x.toNat)) := aidxG_str (by rfl) e2
    have w1 : IntKind.i64.wrap ((pre.length : Int) + 1) = ((pre.length + 1 : Nat) : Int) := wrap_nat (by omega)
    have ih' := ih x suf rfl
    have hs2 := stA_snoc pre x
    unfold stp at hs2
    by_cases hx : x = 10
    · subst hx
      rw [if_pos rfl] at hs2
      have hf2 : frA (pre ++ [10]) = pre.length + 1 := by unfold frA; rw [hs2]; simp
      rw [hf2, hs2, List.length_append, List.length_cons, List.length_nil] at ih'
      obtain ⟨k, c, l, g1, g2, g3, g4, g5, g6, g7, g8, g9, g10, g11⟩ := (hg2 pre suf hl).ex
      change ∀ j, j < k → (stA pre).cur[j]? = some 32 at g1
      change (stA pre).cur[k]? = some c at g2
      change fch (stA pre).cur = some c at g4
      change (stA pre).cur[(stA pre).cur.length - 1]? = some l at g5
      change (stA pre).cur.getLast? = some l at g6
      change (k : Int) = 4 * mid (stA pre).opn (stA pre).cur at g8
      change mid (stA pre).opn (stA pre).cur = 0 → 1 ≤ (stA pre).cnt → (stA pre).cur = [125] at g9
      change 0 ≤ mid (stA pre).opn (stA pre).cur at g10
      change mid (stA pre).opn (stA pre).cur ≤ 20 at g11
      have hnx : nxt (stA pre).opn (stA pre).cur = if l = 123 then mid (stA pre).opn (stA pre).cur + 1 else mid (stA pre).opn (stA pre).cur := by
        unfold nxt
        rw [g6]
        simp
      have hmd : mid (stA pre).opn (stA pre).cur = if c = 125 then (stA pre).opn - 1 else (stA pre).opn := by
        unfold mid
        rw [g4]
        simp
      have hm2 : asliM C 9 (some (.d (.str s))) (some (.d (.int .i64 (frA pre : Nat)))) (some (.d (.int .i64 (pre.length : Int)))) = some (.d (.str (stA pre).cur)) := by
        rw [asliM_str (by rfl) (by unfold frA; omega) hpl]
        rw [hl, List.take_left']
        · unfold frA; rw [c2]
        · rfl
      have hk := (List.getElem?_eq_some_iff.1 g2).1
      generalize hcn : (stA pre).cnt = cn at *
      generalize hop : (stA pre).opn = op at *
      generalize hcu : (stA pre).cur = w at *
      generalize hmi : mid op w = md at *
      rw [hnx] at ih'
      have w2 : IntKind.i64.wrap ((cn : Int) + 1) = ((cn + 1 : Nat) : Int) := wrap_nat (by omega)
      have hwl : w.length ≤ 160200 := by omega
      simp (maxSteps := 1000000) only [go_sem, acondK_bool, acB_merge, Nat.reduceLT, Nat.reduceLeDiff, Nat.reduceEqDiff, Nat.reduceAdd, Nat.reduceSub, Nat.reduceMul, Nat.reduceBEq, Nat.reduceBNe, Nat.reduceBneDiff, Nat.reduceBeqDiff, Int.reduceToNat, Int.reduceLE, Int.reduceLT, Int.reduceEq, Int.reduceNe, Int.reduceNeg, Int.reduceAdd, Int.reduceSub, ↓reduceIte, reduceCtorEq, e1, i2, hm2, w1, w2]
      refine loop_any (fun p2 => [(9, .v (.d (.int .i64 (p2.length : Nat)))), (8, .v (.d (.str w))), (7, .v (.d (.int .i64 (pre.length : Nat)))), (3, .v (.d (.str s))), (5, .v (.d (.int .i64 (pre.length + 1 : Nat)))), (6, .v (.d (.int .i64 (cn + 1 : Nat)))), (4, .v (.d (.int .i64 op)))]) (fun _ => A) (fun _ _ => some (.d (.bool true), A)) (List.replicate k ()) rfl rfl rfl ?_
      intro p2 s2 hl2 ih2
      have hle : p2.length + s2.length = k := by rw [← List.length_append, ← hl2, List.length_replicate]
      cases s2 with
      | nil =>
        have hpk : p2.length = k := by simpa using hle
        have f1 : decide ((p2.length : Int) < (w.length : Int)) = true := decT (by omega)
        have f2 : aidxG C 9 (some (.d (.str w))) (some (.d (.int .i64 (p2.length : Int)))) = some (.d (.int .u8 c.toNat)) := by rw [hpk]; exact aidxG_str (by rfl) g2
        have f3 : decide ((c.toNat : Int) = 32) = false := decF fun h => g3 (u8_of h)
        have f4 : decide ((p2.length : Int) = (w.length : Int)) = false := decF (by omega)
        have f6 : IntKind.i64.wrap (4 * md) = 4 * md := by rw [wrap_in] <;> omega
        have f7 : decide ((p2.length : Int) = 4 * md) = true := decT (by omega)
        have f12 : IntKind.i64.wrap ((w.length : Int) - 1) = ((w.length - 1 : Nat) : Int) := by rw [wrap_in] <;> omega
        have f11 : aidxG C 9 (some (.d (.str w))) (some (.d (.int .i64 ((w.length - 1 : Nat) : Int)))) = some (.d (.int .u8 l.toNat)) := aidxG_str (by rfl) g5
        have f13 : IntKind.i64.wrap (md + 1) = md + 1 := by rw [wrap_in] <;> omega
        have f14 : decide ((1 : Int) < ((cn + 1 : Nat) : Int)) = decide (1 ≤ cn) := by rw [Bool.eq_iff_iff]; simp; omega
        have hz0 : (decide (md = 0) && decide (1 ≤ cn) && !(w == [125])) = false := by
          by_cases z1 : md = 0
          · by_cases z2 : 1 ≤ cn
            · rw [g9 z1 z2]; simp
            · simp [z2]
          · simp [z1]
        generalize hwb : (w == [125]) = wb at hz0
        generalize hc1 : decide (1 ≤ cn) = bc at hz0 f14
        clear g9 g4 g6 ih2 wk hg2 v1 t1
        by_cases hc5 : c = 125
        · rw [if_pos hc5] at hmd
          have f5 : decide ((c.toNat : Int) = 125) = true := decT (by rw [hc5]; rfl)
          have w4 : IntKind.i64.wrap (op - 1) = md := by rw [← hmd, wrap_in] <;> omega
          cases hz1 : decide (md = 0) with
          | false =>
            rcases g7 with rfl | rfl | rfl
            · rw [if_pos rfl] at ih'; simp (maxSteps := 1000000) only [go_sem, acondK_bool, acB_merge, Nat.reduceLT, Nat.reduceLeDiff, Nat.reduceEqDiff, Nat.reduceAdd, Nat.reduceSub, Nat.reduceMul, Nat.reduceBEq, Nat.reduceBNe, Nat.reduceBneDiff, Nat.reduceBeqDiff, Int.reduceToNat, Int.reduceLE, Int.reduceLT, Int.reduceEq, Int.reduceNe, Int.reduceNeg, Int.reduceAdd, Int.reduceSub, ↓reduceIte, reduceCtorEq, f5, w4, f1, f2, f3, f4, f6, f7, hz1, f11, f12, f13, v123, w1, ih']
            · rw [if_neg (by decide)] at ih'; simp (maxSteps := 1000000) only [go_sem, acondK_bool, acB_merge, Nat.reduceLT, Nat.reduceLeDiff, Nat.reduceEqDiff, Nat.reduceAdd, Nat.reduceSub, Nat.reduceMul, Nat.reduceBEq, Nat.reduceBNe, Nat.reduceBneDiff, Nat.reduceBeqDiff, Int.reduceToNat, Int.reduceLE, Int.reduceLT, Int.reduceEq, Int.reduceNe, Int.reduceNeg, Int.reduceAdd, Int.reduceSub, ↓reduceIte, reduceCtorEq, f5, w4, f1, f2, f3, f4, f6, f7, hz1, f11, f12, f13, v59, w1, ih']
            · rw [if_neg (by decide)] at ih'; simp (maxSteps := 1000000) only [go_sem, acondK_bool, acB_merge, Nat.reduceLT, Nat.reduceLeDiff, Nat.reduceEqDiff, Nat.reduceAdd, Nat.reduceSub, Nat.reduceMul, Nat.reduceBEq, Nat.reduceBNe, Nat.reduceBneDiff, Nat.reduceBeqDiff, Int.reduceToNat, Int.reduceLE, Int.reduceLT, Int.reduceEq, Int.reduceNe, Int.reduceNeg, Int.reduceAdd, Int.reduceSub, ↓reduceIte, reduceCtorEq, f5, w4, f1, f2, f3, f4, f6, f7, hz1, f11, f12, f13, v125, w1, ih']
          | true =>
            cases bc with
            | false =>
              rcases g7 with rfl | rfl | rfl
              · rw [if_pos rfl] at ih'; simp (maxSteps := 1000000) only [go_sem, acondK_bool, acB_merge, Nat.reduceLT, Nat.reduceLeDiff, Nat.reduceEqDiff, Nat.reduceAdd, Nat.reduceSub, Nat.reduceMul, Nat.reduceBEq, Nat.reduceBNe, Nat.reduceBneDiff, Nat.reduceBeqDiff, Int.reduceToNat, Int.reduceLE, Int.reduceLT, Int.reduceEq, Int.reduceNe, Int.reduceNeg, Int.reduceAdd, Int.reduceSub, ↓reduceIte, reduceCtorEq, f5, w4, f1, f2, f3, f4, f6, f7, hz1, f14, f11, f12, f13, v123, w1, ih']
              · rw [if_neg (by decide)] at ih'; simp (maxSteps := 1000000) only [go_sem, acondK_bool, acB_merge, Nat.reduceLT, Nat.reduceLeDiff, Nat.reduceEqDiff, Nat.reduceAdd, Nat.reduceSub, Nat.reduceMul, Nat.reduceBEq, Nat.reduceBNe, Nat.reduceBneDiff, Nat.reduceBeqDiff, Int.reduceToNat, Int.reduceLE, Int.reduceLT, Int.reduceEq, Int.reduceNe, Int.reduceNeg, Int.reduceAdd, Int.reduceSub, ↓reduceIte, reduceCtorEq, f5, w4, f1, f2, f3, f4, f6, f7, hz1, f14, f11, f12, f13, v59, w1, ih']
              · rw [if_neg (by decide)] at ih'; simp (maxSteps := 1000000) only [go_sem, acondK_bool, acB_merge, Nat.reduceLT, Nat.reduceLeDiff, Nat.reduceEqDiff, Nat.reduceAdd, Nat.reduceSub, Nat.reduceMul, Nat.reduceBEq, Nat.reduceBNe, Nat.reduceBneDiff, Nat.reduceBeqDiff, Int.reduceToNat, Int.reduceLE, Int.reduceLT, Int.reduceEq, Int.reduceNe, Int.reduceNeg, Int.reduceAdd, Int.reduceSub, ↓reduceIte, reduceCtorEq, f5, w4, f1, f2, f3, f4, f6, f7, hz1, f14, f11, f12, f13, v125, w1, ih']
            | true =>
              cases wb with
              | false => rw [hz1] at hz0; cases hz0
              | true =>
              rcases g7 with rfl | rfl | rfl
              · rw [if_pos rfl] at ih'; simp (maxSteps := 1000000) only [go_sem, acondK_bool, acB_merge, Nat.reduceLT, Nat.reduceLeDiff, Nat.reduceEqDiff, Nat.reduceAdd, Nat.reduceSub, Nat.reduceMul, Nat.reduceBEq, Nat.reduceBNe, Nat.reduceBneDiff, Nat.reduceBeqDiff, Int.reduceToNat, Int.reduceLE, Int.reduceLT, Int.reduceEq, Int.reduceNe, Int.reduceNeg, Int.reduceAdd, Int.reduceSub, ↓reduceIte, reduceCtorEq, f5, w4, f1, f2, f3, f4, f6, f7, hz1, f14, hwb, f11, f12, f13, v123, w1, ih']
              · rw [if_neg (by decide)] at ih'; simp (maxSteps := 1000000) only [go_sem, acondK_bool, acB_merge, Nat.reduceLT, Nat.reduceLeDiff, Nat.reduceEqDiff, Nat.reduceAdd, Nat.reduceSub, Nat.reduceMul, Nat.reduceBEq, Nat.reduceBNe, Nat.reduceBneDiff, Nat.reduceBeqDiff, Int.reduceToNat, Int.reduceLE, Int.reduceLT, Int.reduceEq, Int.reduceNe, Int.reduceNeg, Int.reduceAdd, Int.reduceSub, ↓reduceIte, reduceCtorEq, f5, w4, f1, f2, f3, f4, f6, f7, hz1, f14, hwb, f11, f12, f13, v59, w1, ih']
              · rw [if_neg (by decide)] at ih'; simp (maxSteps := 1000000) only [go_sem, acondK_bool, acB_merge, Nat.reduceLT, Nat.reduceLeDiff, Nat.reduceEqDiff, Nat.reduceAdd, Nat.reduceSub, Nat.reduceMul, Nat.reduceBEq, Nat.reduceBNe, Nat.reduceBneDiff, Nat.reduceBeqDiff, Int.reduceToNat, Int.reduceLE, Int.reduceLT, Int.reduceEq, Int.reduceNe, Int.reduceNeg, Int.reduceAdd, Int.reduceSub, ↓reduceIte, reduceCtorEq, f5, w4, f1, f2, f3, f4, f6, f7, hz1, f14, hwb, f11, f12, f13, v125, w1, ih']
        · rw [if_neg hc5] at hmd
          have f5 : decide ((c.toNat : Int) = 125) = false := decF fun h => hc5 (u8_of h)
          subst hmd
          cases hz1 : decide (md = 0) with
          | false =>
            rcases g7 with rfl | rfl | rfl
            · rw [if_pos rfl] at ih'; simp (maxSteps := 1000000) only [go_sem, acondK_bool, acB_merge, Nat.reduceLT, Nat.reduceLeDiff, Nat.reduceEqDiff, Nat.reduceAdd, Nat.reduceSub, Nat.reduceMul, Nat.reduceBEq, Nat.reduceBNe, Nat.reduceBneDiff, Nat.reduceBeqDiff, Int.reduceToNat, Int.reduceLE, Int.reduceLT, Int.reduceEq, Int.reduceNe, Int.reduceNeg, Int.reduceAdd, Int.reduceSub, ↓reduceIte, reduceCtorEq, f5, f1, f2, f3, f4, f6, f7, hz1, f11, f12, f13, v123, w1, ih']
            · rw [if_neg (by decide)] at ih'; simp (maxSteps := 1000000) only [go_sem, acondK_bool, acB_merge, Nat.reduceLT, Nat.reduceLeDiff, Nat.reduceEqDiff, Nat.reduceAdd, Nat.reduceSub, Nat.reduceMul, Nat.reduceBEq, Nat.reduceBNe, Nat.reduceBneDiff, Nat.reduceBeqDiff, Int.reduceToNat, Int.reduceLE, Int.reduceLT, Int.reduceEq, Int.reduceNe, Int.reduceNeg, Int.reduceAdd, Int.reduceSub, ↓reduceIte, reduceCtorEq, f5, f1, f2, f3, f4, f6, f7, hz1, f11, f12, f13, v59, w1, ih']
            · rw [if_neg (by decide)] at ih'; simp (maxSteps := 1000000) only [go_sem, acondK_bool, acB_merge, Nat.reduceLT, Nat.reduceLeDiff, Nat.reduceEqDiff, Nat.reduceAdd, Nat.reduceSub, Nat.reduceMul, Nat.reduceBEq, Nat.reduceBNe, Nat.reduceBneDiff, Nat.reduceBeqDiff, Int.reduceToNat, Int.reduceLE, Int.reduceLT, Int.reduceEq, Int.reduceNe, Int.reduceNeg, Int.reduceAdd, Int.reduceSub, ↓reduceIte, reduceCtorEq, f5, f1, f2, f3, f4, f6, f7, hz1, f11, f12, f13, v125, w1, ih']
          | true =>
            cases bc with
            | false =>
              rcases g7 with rfl | rfl | rfl
              · rw [if_pos rfl] at ih'; simp (maxSteps := 1000000) only [go_sem, acondK_bool, acB_merge, Nat.reduceLT, Nat.reduceLeDiff, Nat.reduceEqDiff, Nat.reduceAdd, Nat.reduceSub, Nat.reduceMul, Nat.reduceBEq, Nat.reduceBNe, Nat.reduceBneDiff, Nat.reduceBeqDiff, Int.reduceToNat, Int.reduceLE, Int.reduceLT, Int.reduceEq, Int.reduceNe, Int.reduceNeg, Int.reduceAdd, Int.reduceSub, ↓reduceIte, reduceCtorEq, f5, f1, f2, f3, f4, f6, f7, hz1, f14, f11, f12, f13, v123, w1, ih']
              · rw [if_neg (by decide)] at ih'; simp (maxSteps := 1000000) only [go_sem, acondK_bool, acB_merge, Nat.reduceLT, Nat.reduceLeDiff, Nat.reduceEqDiff, Nat.reduceAdd, Nat.reduceSub, Nat.reduceMul, Nat.reduceBEq, Nat.reduceBNe, Nat.reduceBneDiff, Nat.reduceBeqDiff, Int.reduceToNat, Int.reduceLE, Int.reduceLT, Int.reduceEq, Int.reduceNe, Int.reduceNeg, Int.reduceAdd, Int.reduceSub, ↓reduceIte, reduceCtorEq, f5, f1, f2, f3, f4, f6, f7, hz1, f14, f11, f12, f13, v59, w1, ih']
              · rw [if_neg (by decide)] at ih'; simp (maxSteps := 1000000) only [go_sem, acondK_bool, acB_merge, Nat.reduceLT, Nat.reduceLeDiff, Nat.reduceEqDiff, Nat.reduceAdd, Nat.reduceSub, Nat.reduceMul, Nat.reduceBEq, Nat.reduceBNe, Nat.reduceBneDiff, Nat.reduceBeqDiff, Int.reduceToNat, Int.reduceLE, Int.reduceLT, Int.reduceEq, Int.reduceNe, Int.reduceNeg, Int.reduceAdd, Int.reduceSub, ↓reduceIte, reduceCtorEq, f5, f1, f2, f3, f4, f6, f7, hz1, f14, f11, f12, f13, v125, w1, ih']
            | true =>
              cases wb with
              | false => rw [hz1] at hz0; cases hz0
              | true =>
              rcases g7 with rfl | rfl | rfl
              · rw [if_pos rfl] at ih'; simp (maxSteps := 1000000) only [go_sem, acondK_bool, acB_merge, Nat.reduceLT, Nat.reduceLeDiff, Nat.reduceEqDiff, Nat.reduceAdd, Nat.reduceSub, Nat.reduceMul, Nat.reduceBEq, Nat.reduceBNe, Nat.reduceBneDiff, Nat.reduceBeqDiff, Int.reduceToNat, Int.reduceLE, Int.reduceLT, Int.reduceEq, Int.reduceNe, Int.reduceNeg, Int.reduceAdd, Int.reduceSub, ↓reduceIte, reduceCtorEq, f5, f1, f2, f3, f4, f6, f7, hz1, f14, hwb, f11, f12, f13, v123, w1, ih']
              · rw [if_neg (by decide)] at ih'; simp (maxSteps := 1000000) only [go_sem, acondK_bool, acB_merge, Nat.reduceLT, Nat.reduceLeDiff, Nat.reduceEqDiff, Nat.reduceAdd, Nat.reduceSub, Nat.reduceMul, Nat.reduceBEq, Nat.reduceBNe, Nat.reduceBneDiff, Nat.reduceBeqDiff, Int.reduceToNat, Int.reduceLE, Int.reduceLT, Int.reduceEq, Int.reduceNe, Int.reduceNeg, Int.reduceAdd, Int.reduceSub, ↓reduceIte, reduceCtorEq, f5, f1, f2, f3, f4, f6, f7, hz1, f14, hwb, f11, f12, f13, v59, w1, ih']
              · rw [if_neg (by decide)] at ih'; simp (maxSteps := 1000000) only [go_sem, acondK_bool, acB_merge, Nat.reduceLT, Nat.reduceLeDiff, Nat.reduceEqDiff, Nat.reduceAdd, Nat.reduceSub, Nat.reduceMul, Nat.reduceBEq, Nat.reduceBNe, Nat.reduceBneDiff, Nat.reduceBeqDiff, Int.reduceToNat, Int.reduceLE, Int.reduceLT, Int.reduceEq, Int.reduceNe, Int.reduceNeg, Int.reduceAdd, Int.reduceSub, ↓reduceIte, reduceCtorEq, f5, f1, f2, f3, f4, f6, f7, hz1, f14, hwb, f11, f12, f13, v125, w1, ih']
      | cons u s2 =>
        have hlt : p2.length < k := by simp at hle; omega
        have f1 : decide ((p2.length : Int) < (w.length : Int)) = true := decT (by omega)
        have f2 : aidxG C 9 (some (.d (.str w))) (some (.d (.int .i64 (p2.length : Int)))) = some (.d (.int .u8 32)) := aidxG_str (by rfl) (g1 _ hlt)
        have w3 : IntKind.i64.wrap ((p2.length : Int) + 1) = ((p2.length + 1 : Nat) : Int) := wrap_nat (by omega)
        have ih3 := ih2 u s2 rfl
        rw [List.length_append, List.length_cons, List.length_nil] at ih3
        simp (maxSteps := 1000000) only [go_sem, acondK_bool, acB_merge, Nat.reduceLT, Nat.reduceLeDiff, Nat.reduceEqDiff, Nat.reduceAdd, Nat.reduceSub, Nat.reduceMul, Nat.reduceBEq, Nat.reduceBNe, Nat.reduceBneDiff, Nat.reduceBeqDiff, Int.reduceToNat, Int.reduceLE, Int.reduceLT, Int.reduceEq, Int.reduceNe, Int.reduceNeg, Int.reduceAdd, Int.reduceSub, ↓reduceIte, reduceCtorEq, f1, f2, w3, ih3]
    · rw [if_neg hx] at hs2
      have hx10 : decide ((x.toNat : Int) = 10) = false := by
        refine decF fun h => hx ?_
        have : x.toNat = 10 := by omega
        exact UInt8.toNat_inj.1 (this.trans rfl)
      have hf2 : frA (pre ++ [x]) = frA pre := by unfold frA; rw [hs2]; simp
      rw [hf2, hs2, List.length_append, List.length_cons, List.length_nil] at ih'
      simp (maxSteps := 1000000) only [go_sem, acondK_bool, acB_merge, Nat.reduceLT, Nat.reduceLeDiff, Nat.reduceEqDiff, Nat.reduceAdd, Nat.reduceSub, Nat.reduceMul, Nat.reduceBEq, Nat.reduceBNe, Nat.reduceBneDiff, Nat.reduceBeqDiff, Int.reduceToNat, Int.reduceLE, Int.reduceLT, Int.reduceEq, Int.reduceNe, Int.reduceNeg, Int.reduceAdd, Int.reduceSub, ↓reduceIte, reduceCtorEq, e1, i2, hx10, w1, ih']
theorem lawPrinterLinesC (p : Pr) (k : p.Ok) : acl C 5 [Pr.av p] A00 = some (.d (.bool true), A00) := lawPrinterLines p k A00
end Go.Proofs.YtfflfaedghfmdaaDoor
