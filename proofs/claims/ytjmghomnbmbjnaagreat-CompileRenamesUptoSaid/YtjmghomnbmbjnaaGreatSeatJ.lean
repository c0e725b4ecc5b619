/- A range over a function: the nodes of an expression. -/
import Derived.Test.YtjmghomnbmbjnaaGreatSeatI
import Derived.Test.YtjmghomnbmbjnaaGreatGenB
set_option linter.unusedVariables false
set_option linter.unusedSimpArgs false
set_option linter.all false
set_option linter.deprecated false
set_option linter.all false
namespace Go.Proofs.YtjmghomnbmbjnaaGreat
open Go.RowKit Go.Shelf
open Go.Abs (E RelD Dat Bytes WRel RelV Ev EvV CallPost AHeap AV Gh Rest RelL)
attribute [local go_sem] Oper.semAt_some
def fstS : List Int → Nat → Int × Int × Bool
  | [], _ => (0, 0, false)
  | x :: l, n => if ndS x = true then (x, (n : Int), true) else fstS l (n + 1)
theorem fstS_app : ∀ (pre l : List Int) (n : Nat), pre.any ndS = false → fstS (pre ++ l) n = fstS l (n + pre.length)
  | [], l, n, _ => rfl
  | x :: pre, l, n, h => by
    rw [List.any_cons, Bool.or_eq_false_iff] at h
    rw [List.cons_append, fstS, if_neg (by simp [h.1]), fstS_app pre l (n + 1) h.2, List.length_cons]
    congr 1
    omega
theorem fstS_none (l : List Int) (n : Nat) (h : l.any ndS = false) : fstS l n = (0, 0, false) := by
  have := fstS_app l [] n h
  rw [List.append_nil] at this
  rw [this]
  rfl
def mark (D : Nat) : Deferred := { target := .collected D, args := #[] }
def Marks (W : World) (Ds : List Nat) : Prop := Ds.Nodup ∧ ∀ D ∈ Ds, W.heap[D]? = some (.deferred (some []))
theorem leaves_marks {F : Fence} {n : Nat} {P : Program} {fn : Func} {tmps : Array Value} {R : Ending → World → Prop} : ∀ (Ds : List Nat) (W : World), Marks W Ds →
    (∀ W', (∀ b, b ∉ Ds → W'.heap[b]? = W.heap[b]?) → W'.heap.size = W.heap.size → W'.os = W.os → W'.output = W.output → LeavesIn F n P fn tmps R [] .returning W') → LeavesInM F n P fn tmps R (Ds.map mark) .returning W
  | [], W, _, h => h W (fun _ _ => rfl) rfl rfl rfl
  | D :: Ds, W, hm, h => by
    obtain ⟨h1, h2⟩ := hm
    rw [List.nodup_cons] at h1
    refine ⟨by simp, .inl ⟨D, _, rfl, run_takeDeferred (h2 D (List.mem_cons_self ..)), ?_⟩⟩
    refine leaves_marks Ds _ ⟨h1.2, fun D' hD' => ?_⟩ fun W' hb hs ho hu => ?_
    · have hne : D' ≠ D := fun e => h1.1 (e ▸ hD')
      exact (World.putObj_heap_other hne).trans (h2 D' (List.mem_cons_of_mem _ hD'))
    · refine h W' (fun b hb' => ?_) ?_ (ho.trans rfl) (hu.trans rfl)
      · rw [List.mem_cons, not_or] at hb'
        exact (hb b hb'.2).trans (World.putObj_heap_other hb'.1)
      · rw [hs]; simp [World.putObj]
theorem below_ev {W W' : World} {g : Gh} {A : AHeap} (hw : WRel W g A) (hb : Below W.heap.size W W') : WRel W' g A ∧ Ev W g A W' g A :=
  ⟨hw.grown hb.size (fun b h => hb.block b h) ⟨hb.os, hb.output⟩, Ev.grown hw hb.size (fun b h => hb.block b h) ⟨hb.os, hb.output⟩⟩
theorem dInt {W : World} {g : Gh} {A : AHeap} {k : IntKind} {m : Int} {v : Value} (h : RelV W g A (.d (.int k m)) v) : v = .int k m := by
  cases h with
  | d _ _ h => cases h; rfl
theorem dSlice {W : World} {g : Gh} {A : AHeap} {rows : List (List Dat)} {v : Value} (h : RelV W g A (.d (.slice rows)) v) : RelD W g.S (.slice rows) v := by
  cases h with
  | d _ _ h => exact h
theorem cells3 {W : World} {B t : Nat} {c0 c1 c2 : Value} (h : W.heap[B]? = some (.cells #[c0, c1, c2] t (0, 0))) : W.cell? ⟨B, 0, none⟩ = some c0 ∧ W.cell? ⟨B, 1, none⟩ = some c1 ∧ W.cell? ⟨B, 2, none⟩ = some c2 := by
  refine ⟨?_, ?_, ?_⟩ <;> simp [World.cell?, h]
theorem cells3a {W : World} {B t : Nat} {c0 c1 c2 : Value} (o : Obj) (h : W.heap[B]? = some (.cells #[c0, c1, c2] t (0, 0))) : (W.alloc o).heap[B]? = some (.cells #[c0, c1, c2] t (0, 0)) :=
  (Below.heap_alloc W o B (Array.getElem?_eq_some_iff.1 h).1).trans h
def Fr (g : Gh) (b : Nat) : Prop := g.own b = none ∧ ∀ o, ¬ g.S b o
theorem fr_new {W : World} {g : Gh} {A : AHeap} (hw : WRel W g A) {b : Nat} (h : W.heap.size ≤ b) : Fr g b := by
  refine ⟨?_, fun o ho => ?_⟩
  · cases ho : g.own b with
    | none => rfl
    | some o => have := hw.lt b o ho; omega
  · have := hw.stab b o ho
    omega
theorem fr_ev {W W' : World} {g g' : Gh} {A A' : AHeap} (e : Ev W g A W' g' A') {b : Nat} (h : b < W.heap.size) (hf : Fr g b) : W'.heap[b]? = W.heap[b]? ∧ Fr g' b := by
  obtain ⟨e1, e2, e3⟩ := e.free b h hf.1
  exact ⟨e1, e2, fun o ho => hf.2 o (e3 o ho)⟩
theorem ev_other {w W W' : World} {g g' : Gh} {A : AHeap} (e : Ev w g A W g' A) (hw' : WRel W g' A) (hs : W.heap.size ≤ W'.heap.size) (O : List Nat) (hO : ∀ b ∈ O, w.heap.size ≤ b ∧ Fr g' b)
    (hh : ∀ b, b < W.heap.size → b ∉ O → W'.heap[b]? = W.heap[b]?) (hr : Go.Abs.Rest W W') : WRel W' g' A ∧ Ev w g A W' g' A := by
  have key : ∀ b, (g'.own b ≠ none ∨ ∃ o, g'.S b o) → W'.heap[b]? = W.heap[b]? := by
    intro b hb
    refine hh b ?_ fun hbO => ?_
    · rcases hb with hb | ⟨o, hb⟩
      · cases ho : g'.own b with
        | none => exact absurd ho hb
        | some o => exact hw'.lt b o ho
      · exact hw'.stab b o hb
    · obtain ⟨_, f1, f2⟩ := hO b hbO
      rcases hb with hb | ⟨o, hb⟩
      · exact hb f1
      · exact f2 o hb
  refine ⟨hw'.other hs key hr, ⟨e.toEvV.trans (EvV.other hs key hr), fun b hb ho => ?_⟩⟩
  obtain ⟨e1, e2, e3⟩ := e.free b hb ho
  refine ⟨(hh b (Nat.lt_of_lt_of_le hb e.size) fun hbO => ?_).trans e1, e2, e3⟩
  have := (hO b hbO).1
  omega
theorem belS_own {S : Nat → Prop} {B : Nat} {w0 X Y : World} {row : Option Nat} (h : BelS S w0 X) (hX : ∀ k, S k → k < X.heap.size) (hS : ∀ k, S k → k < B) (hg : X.grownBy Y row) (hr : ∀ r, row = some r → B ≤ r) : BelS S w0 Y :=
  h.trans ⟨hg.os, hg.tape, hg.output, hg.size, fun k hk => hg.block k (hX k hk) (fun e => by have := hr k e.symm; have := hS k hk; omega)⟩
theorem marks_own {B : Nat} {X Y : World} {row : Option Nat} {Ds : List Nat} (h : Marks X Ds) (hB : ∀ D ∈ Ds, D < B) (hg : X.grownBy Y row) (hr : ∀ r, row = some r → B ≤ r) : Marks Y Ds :=
  ⟨h.1, fun D hD => (hg.block D (Array.getElem?_eq_some_iff.1 (h.2 D hD)).1 (fun e => by have := hr D e.symm; have := hB D hD; omega)).trans (h.2 D hD)⟩
theorem marks_set {X : World} {Ds : List Nat} (h : Marks X Ds) (a : Addr) (v : Value) : Marks (X.setCell a v) Ds := ⟨h.1, fun D hD => (KeepsOthers.setCell X a v).same D _ (h.2 D hD) rfl⟩
theorem marks_alloc {X : World} {Ds : List Nat} (h : Marks X Ds) (o : Obj) : Marks (X.alloc o) Ds := ⟨h.1, fun D hD => (KeepsOthers.alloc X o).same D _ (h.2 D hD) rfl⟩
theorem belS_set {S : Nat → Prop} {w0 X : World} (h : BelS S w0 X) {B o : Nat} (hB : ¬ S B) (v : Value) : BelS S w0 (X.setCell ⟨B, o, none⟩ v) :=
  h.trans ⟨rfl, rfl, rfl, by simp [World.setCell], fun k hk => Below.heap_setCell _ _ _ _ (fun e => hB (by have e' : k = B := e; rw [← e']; exact hk))⟩
theorem belS_alloc {S : Nat → Prop} {w0 X : World} (h : BelS S w0 X) (hS : ∀ k, S k → k < w0.heap.size) (o : Obj) : BelS S w0 (X.alloc o) :=
  h.trans ⟨rfl, rfl, rfl, by simp, fun k hk => Below.heap_alloc _ _ _ (Nat.lt_of_lt_of_le (hS k hk) h.size)⟩
theorem BelS.sub {S S' : Nat → Prop} {a b : World} (h : BelS S a b) (hs : ∀ k, S' k → S k) : BelS S' a b := ⟨h.os, h.tape, h.output, h.size, fun k hk => h.block k (hs k hk)⟩
set_option maxRecDepth 100000 in
set_option maxHeartbeats 8000000 in
theorem first_in (n : Nat) (hn : 8 ≤ n) (g : Gh) (A : AHeap) (w : World) (hw : WRel w g A) (px : AV) (c0 c1 c2 : Value) (hv : RelV w g A px (.agg #[c0, c1, c2])) (vs : Int) (roots : List E) (hN : vs = 0 → (opsEs roots).length ≤ 1099511627776)
    (hval : ∀ W g, WRel W g A → RelV W g A px (.agg #[c0, c1, c2]) → Calls Tryz.prog 70 #[.agg #[c0, c1, c2]] W (CallPost W g A (.d (.int .i64 vs)) A))
    (hexp : vs = 0 → ∀ W g, WRel W g A → RelV W g A px (.agg #[c0, c1, c2]) → Calls Tryz.prog 107 #[.agg #[c0, c1, c2]] W (CallPost W g A (.d (.slice (roots.map E.row))) A))
    (r : Int × Int × Bool) (hr : r = if vs = 0 then fstS (opsEs roots) 0 else (0, 0, false)) :
    CallsIn Fence.wide n Tryz.prog 81 #[.agg #[c0, c1, c2]] w (CallPost w g A (.tuple [.d (.int .i64 r.1), .d (.int .i64 r.2.1), .d (.bool r.2.2)]) A) := by
  have h1 : 1 ≤ n := by omega
  refine callsIn_of_wp_marks Tryz.func81 rfl trivial ?_ rfl
  simp only [Tryz.ntmps81, List.size_toArray, List.length_cons, List.length_nil, Nat.reduceAdd, Nat.reduceSub, Array.replicate_succ, Array.replicate_zero, List.push_toArray, List.append_toArray, List.nil_append, List.cons_append]
  have hB1 : Below w.heap.size w ((((w.alloc (.cells #[c0, c1, c2] 25)).alloc (.cells #[.int .i64 0] 3)).alloc (.cells #[.int .i64 0] 3)).alloc (.cells #[.bool false] 4)) :=
    ((((Below.refl _ w).alloc (Nat.le_refl _) _).alloc (by simp) _).alloc (by simp; omega) _).alloc (by simp; omega) _
  have b1 : ((((w.alloc (.cells #[c0, c1, c2] 25)).alloc (.cells #[.int .i64 0] 3)).alloc (.cells #[.int .i64 0] 3)).alloc (.cells #[.bool false] 4)).heap[w.heap.size]? = some (.cells #[c0, c1, c2] 25 (0, 0)) := by
    rw [Below.heap_alloc _ _ _ (by simp; omega), Below.heap_alloc _ _ _ (by simp; omega), Below.heap_alloc _ _ _ (by simp)]
    exact World.alloc_heap_new w _
  have b2 := (((Boxed.new (w.alloc (.cells #[c0, c1, c2] 25)) 3 (.int .i64 0))).alloc (.cells #[.int .i64 0] 3)).alloc (.cells #[.bool false] 4)
  have b3 := (Boxed.new ((w.alloc (.cells #[c0, c1, c2] 25)).alloc (.cells #[.int .i64 0] 3)) 3 (.int .i64 0)).alloc (.cells #[.bool false] 4)
  have b4 := Boxed.new (((w.alloc (.cells #[c0, c1, c2] 25)).alloc (.cells #[.int .i64 0] 3)).alloc (.cells #[.int .i64 0] 3)) 4 (.bool false)
  simp only [World.size_alloc] at b2 b3 b4
  have hsz1 : ((((w.alloc (.cells #[c0, c1, c2] 25)).alloc (.cells #[.int .i64 0] 3)).alloc (.cells #[.int .i64 0] 3)).alloc (.cells #[.bool false] 4)).heap.size = w.heap.size + 4 := by simp
  obtain ⟨W1, hW1⟩ : ∃ W1, ((((w.alloc (.cells #[c0, c1, c2] 25)).alloc (.cells #[.int .i64 0] 3)).alloc (.cells #[.int .i64 0] 3)).alloc (.cells #[.bool false] 4)) = W1 := ⟨_, rfl⟩
  rw [hW1] at hB1 b1 b2 b3 b4 hsz1
  obtain ⟨hw1, hev1⟩ := below_ev hw hB1
  have hv1 := hev1.toEvV.relV hv
  have hcall1 := callsIn_wide (n := n - 1).2 (hval _ _ hw1 hv1)
  have fin : ∀ {W2 : World} {g2 : Gh}, Ev W1 g A W2 g2 A → ∀ {b : Nat}, w.heap.size ≤ b → b < W1.heap.size → W2.heap[b]? = W1.heap[b]? ∧ Fr g2 b := fun {W2 g2} e {b} h1 h2 => fr_ev e h2 (fr_new hw h1)
  obtain ⟨k10, k11, k12⟩ := cells3 b1
  by_cases hz : vs = 0
  · subst hz
    replace hN := hN rfl
    rw [if_pos rfl] at hr
    gi_wp2_with (first
      | (refine ⟨trivial, ?_⟩; gi_at_call 70; refine hcall1.mono ?_; clear hcall1; rintro en W2 ⟨v2, g2, rfl, rv2, hw2, hev2⟩; have e2 := dInt rv2; subst e2
         obtain ⟨p1, f1⟩ := fin hev2 (b := w.heap.size) (Nat.le_refl _) (by omega); obtain ⟨p2, f2⟩ := fin hev2 (b := w.heap.size + 1) (by omega) (by omega); obtain ⟨p3, f3⟩ := fin hev2 (b := w.heap.size + 1 + 1) (by omega) (by omega); obtain ⟨p4, f4⟩ := fin hev2 (b := w.heap.size + 1 + 1 + 1) (by omega) (by omega); rw [b1] at p1
         have q2 : Boxed W2 (w.heap.size + 1) 3 (.int .i64 0) := p2.trans b2
         have q3 : Boxed W2 (w.heap.size + 1 + 1) 3 (.int .i64 0) := p3.trans b3
         have q4 : Boxed W2 (w.heap.size + 1 + 1 + 1) 4 (.bool false) := p4.trans b4
         clear hW1
         have p1a := cells3a (.cells #[.int .i64 0] 3) p1
         obtain ⟨k20, k21, k22⟩ := cells3 p1a
         have hB3 : Below W2.heap.size W2 (W2.alloc (.cells #[.int .i64 0] 3)) := (Below.refl _ _).alloc (Nat.le_refl _) _
         obtain ⟨hw3, hev3⟩ := below_ev hw2 hB3
         have hcall2 := callsIn_wide (n := n - 1).2 (hexp rfl _ _ hw3 ((hev2.trans hev3).toEvV.relV hv1)))
      | (refine ⟨trivial, ?_⟩; gi_at_call 107; refine hcall2.mono ?_; clear hcall2; rintro en W4 ⟨v4, g4, rfl, rv4, hw4, hev4⟩
         have hD := dSlice rv4
         obtain ⟨sa, sl, sc, hsv⟩ : ∃ a l c, v4 = .slice a l c := by
           generalize roots.map E.row = rr at hD
           cases hD with
           | empty a cap => exact ⟨a, 0, cap, rfl⟩
           | slice _ b o cap sz val hcap hlen hcell hval => exact ⟨_, _, _, rfl⟩
         subst hsv))
    -- the loop over the roots
    obtain ⟨r1, f1⟩ := fr_ev (hev3.trans hev4) (b := w.heap.size) (by have := hev2.size; omega) f1
    obtain ⟨r2, f2⟩ := fr_ev (hev3.trans hev4) (b := w.heap.size + 1) (by have := hev2.size; omega) f2
    obtain ⟨r3, f3⟩ := fr_ev (hev3.trans hev4) (b := w.heap.size + 1 + 1) (by have := hev2.size; omega) f3
    obtain ⟨r4, f4⟩ := fr_ev (hev3.trans hev4) (b := w.heap.size + 1 + 1 + 1) (by have := hev2.size; omega) f4
    obtain ⟨r5, f5⟩ := fr_ev hev4 (b := W2.heap.size) (by simp) (fr_new hw2 (Nat.le_refl _))
    have q2 : Boxed W4 (w.heap.size + 1) 3 (.int .i64 0) := r2.trans q2
    have q3 : Boxed W4 (w.heap.size + 1 + 1) 3 (.int .i64 0) := r3.trans q3
    have q4 : Boxed W4 (w.heap.size + 1 + 1 + 1) 4 (.bool false) := r4.trans q4
    have q5 : Boxed W4 W2.heap.size 3 (.int .i64 0) := r5.trans (Boxed.new W2 3 _)
    have hl2 := q2.lt
    have hl3 := q3.lt
    have hl4 := q4.lt
    have hl5 := q5.lt
    have hge5 : w.heap.size + 1 + 1 + 1 < W2.heap.size := by have := hev2.size; omega
    have hevT : Ev w g A W4 g4 A := ((hev1.trans hev2).trans hev3).trans hev4
    obtain ⟨S, hS⟩ : ∃ S : Nat → Prop, S = fun b => b < W4.heap.size ∧ b ≠ W2.heap.size := ⟨_, rfl⟩
    obtain ⟨S', hS'⟩ : ∃ S' : Nat → Prop, S' = fun b => b < W4.heap.size ∧ b ∉ [w.heap.size + 1, w.heap.size + 1 + 1, w.heap.size + 1 + 1 + 1, W2.heap.size] := ⟨_, rfl⟩
    have hSlt : ∀ k, S k → k < W4.heap.size := fun k hk => by rw [hS] at hk; exact hk.1
    have hSS : ∀ k, S' k → S k := fun k hk => by rw [hS'] at hk; rw [hS]; exact ⟨hk.1, fun e => hk.2 (by simp [e])⟩
    have hSlt' : ∀ k, S' k → k < W4.heap.size := fun k hk => hSlt k (hSS k hk)
    have n5 : ¬ S W2.heap.size := fun h => by rw [hS] at h; exact h.2 rfl
    have n5' : ¬ S' W2.heap.size := fun h => n5 (hSS _ h)
    have n2' : ¬ S' (w.heap.size + 1) := fun h => by rw [hS'] at h; exact h.2 (by simp)
    have n3' : ¬ S' (w.heap.size + 1 + 1) := fun h => by rw [hS'] at h; exact h.2 (by simp)
    have n4' : ¬ S' (w.heap.size + 1 + 1 + 1) := fun h => by rw [hS'] at h; exact h.2 (by simp)
    have s2 : S (w.heap.size + 1) := by rw [hS]; exact ⟨hl2, by omega⟩
    have s3 : S (w.heap.size + 1 + 1) := by rw [hS]; exact ⟨hl3, by omega⟩
    have s4 : S (w.heap.size + 1 + 1 + 1) := by rw [hS]; exact ⟨hl4, by omega⟩
    have hE4 : IsE S W4 (.mk 0 0 [] roots) ⟨0, 0, ⟨#[]⟩, sa, sl, sc⟩ := ⟨rfl, rfl, rfl, hD.mono fun b o hb => ⟨by
      unfold bel
      rw [hS]
      exact ⟨hw4.stab b o hb, fun e => f5.2 o (e ▸ hb)⟩, rfl⟩⟩
    have hsl : sl = roots.length := hE4.form
    subst hsl
    -- how the function is left
    have fin2 : ∀ (tm : Array Value) (ra rb : Int) (rc : Bool) (Ds : List Nat) (Wf : World), tm[2]?.getD undef = .pointer (some ⟨w.heap.size + 1, 0, none⟩) → tm[3]?.getD undef = .pointer (some ⟨w.heap.size + 1 + 1, 0, none⟩) → tm[4]?.getD undef = .pointer (some ⟨w.heap.size + 1 + 1 + 1, 0, none⟩) →
        r = (ra, rb, rc) → Boxed Wf (w.heap.size + 1) 3 (.int .i64 ra) → Boxed Wf (w.heap.size + 1 + 1) 3 (.int .i64 rb) → Boxed Wf (w.heap.size + 1 + 1 + 1) 4 (.bool rc) → BelS S' W4 Wf → Marks Wf Ds → (∀ D ∈ Ds, W4.heap.size ≤ D) →
        LeavesInM Fence.wide n Tryz.prog Tryz.f81 tm (CallPost w g A (.tuple [.d (.int .i64 r.1), .d (.int .i64 r.2.1), .d (.bool r.2.2)]) A) (Ds.map mark) .returning Wf := by
      intro tm ra rb rc Ds Wf t2 t3 t4 hrr h2 h3 h4 hb hM hMb
      refine leaves_marks Ds Wf hM fun W' e1 e2 e3 e4 => ?_
      have hnd : ∀ b, b < W4.heap.size → b ∉ Ds := fun b h hm => by have := hMb b hm; omega
      have c2 : W'.cell? ⟨w.heap.size + 1, 0, none⟩ = some (.int .i64 ra) := (World.cell?_of_block (e1 _ (hnd _ hl2))).trans h2.cell
      have c3 : W'.cell? ⟨w.heap.size + 1 + 1, 0, none⟩ = some (.int .i64 rb) := (World.cell?_of_block (e1 _ (hnd _ hl3))).trans h3.cell
      have c4 : W'.cell? ⟨w.heap.size + 1 + 1 + 1, 0, none⟩ = some (.bool rc) := (World.cell?_of_block (e1 _ (hnd _ hl4))).trans h4.cell
      obtain ⟨hwf, hef⟩ := ev_other hevT hw4 (W' := W') (by rw [e2]; exact hb.size) [w.heap.size + 1, w.heap.size + 1 + 1, w.heap.size + 1 + 1 + 1, W2.heap.size]
        (fun b hb => by
          simp only [List.mem_cons, List.mem_nil_iff, or_false] at hb
          rcases hb with rfl | rfl | rfl | rfl
          · exact ⟨by omega, f2⟩
          · exact ⟨by omega, f3⟩
          · exact ⟨by omega, f4⟩
          · exact ⟨by omega, f5⟩)
        (fun b h hO => (e1 b (hnd b h)).trans (hb.block b (by rw [hS']; exact ⟨h, hO⟩)))
        ⟨e3.trans hb.os, e4.trans hb.output⟩
      refine ⟨.tuple #[.int .i64 ra, .int .i64 rb, .bool rc], ?_, _, g4, rfl, ?_, hwf, hef⟩
      · simp [results, Tryz.results81, go_sem, t2, t3, t4, c2, c3, c4]
      · rw [hrr]
        refine .tuple _ [.int .i64 ra, .int .i64 rb, .bool rc] rfl fun i x v h1 h2 => ?_
        match i with
        | 0 => simp at h1 h2; subst h1; subst h2; exact .d _ _ (.int _ _)
        | 1 => simp at h1 h2; subst h1; subst h2; exact .d _ _ (.int _ _)
        | 2 => simp at h1 h2; subst h1; subst h2; exact .d _ _ (.bool _)
        | i + 3 => simp at h1
    refine wpIn_loop (fun a W => ∃ (k : Nat) (Ds : List Nat) (u7 u16 u17 u18 u19 u20 u30 : Value), a = { tmps := #[.agg #[c0, c1, c2], .pointer (some ⟨w.heap.size, 0, none⟩), .pointer (some ⟨w.heap.size + 1, 0, none⟩), .pointer (some ⟨w.heap.size + 1 + 1, 0, none⟩), .pointer (some ⟨w.heap.size + 1 + 1 + 1, 0, none⟩), .pointer (some ⟨W2.heap.size, 0, none⟩), undef, u7, undef, .agg #[c0, c1, c2], .int .i64 0, .bool false, .agg #[c0, c1, c2], .slice sa roots.length sc, .int .i64 roots.length, .int .i64 k, u16, u17, u18, u19, u20, undef, undef, undef, undef, undef, undef, undef, undef, undef, u30], defers := Ds.map mark } ∧
        k ≤ roots.length ∧ (opsEs (roots.take k)).any ndS = false ∧ Boxed W W2.heap.size 3 (.int .i64 (opsEs (roots.take k)).length) ∧ BelS S W4 W ∧ Marks W Ds ∧ ∀ D ∈ Ds, W4.heap.size ≤ D)
      (fun a _ => roots.length - (intOf (a.tmps[15]?.getD undef)).toNat) ?start ?round
    case start => exact ⟨0, [], undef, undef, undef, undef, undef, undef, undef, rfl, Nat.zero_le _, rfl, q5, BelS.refl _ _, ⟨List.nodup_nil, fun D h => by cases h⟩, fun D h => by cases h⟩
    case round =>
      rintro a W ⟨k, Ds, u7, u16, u17, u18, u19, u20, u30, rfl, hk, hnd, hbx, hbs, hM, hMb⟩
      have hcx := hbx.cell
      have hfx := hbx.frozen
      have hrl : roots.length ≤ 1099511627776 := Nat.le_trans (opsEs_len roots) hN
      by_cases hlt : k < roots.length
      · obtain ⟨b, o, hsa, hbS, hch⟩ := (hE4.below hbs).child (by intro e; simp only [Go.Abs.E.args] at e; rw [e] at hlt; simp at hlt)
        dsimp only [Go.Abs.E.args] at hsa hch
        subst hsa
        obtain ⟨⟨zop, zn, zs, za, zl, zc⟩, hz, g0, g1, g2', g3⟩ := hch k (roots[k]) (List.getElem?_eq_getElem hlt)
        dsimp only at g0 g1 g2' g3
        have hnodes := fun n w => nodes_in Fence.wide n trivial rfl ⟨zop, zn, zs, za, zl, zc⟩ w
        dsimp only [Nd.val] at hnodes
        gi_wp2_with (refine ⟨trivial, ?_⟩; gi_at_call 108; refine (hnodes _ _).mono ?_; rintro en w' ⟨rfl, rfl⟩)
        have bT := Box4.new (W.alloc (.cells #[.int .i64 zop, .int .i64 zn, .string zs, .slice za zl zc] 50)) ⟨zop, zn, zs, za, zl, zc⟩
        simp only [World.size_alloc] at bT
        have bb := (hbx.alloc (.cells #[.int .i64 zop, .int .i64 zn, .string zs, .slice za zl zc] 50)).alloc (.cells #[.int .i64 zop, .int .i64 zn, .string zs, .slice za zl zc] 50)
        have hbs0 := belS_alloc (belS_alloc hbs hSlt (.cells #[.int .i64 zop, .int .i64 zn, .string zs, .slice za zl zc] 50)) hSlt (.cells #[.int .i64 zop, .int .i64 zn, .string zs, .slice za zl zc] 50)
        have hM0 := marks_alloc (marks_alloc hM (.cells #[.int .i64 zop, .int .i64 zn, .string zs, .slice za zl zc] 50)) (.cells #[.int .i64 zop, .int .i64 zn, .string zs, .slice za zl zc] 50)
        have hszW : ((W.alloc (.cells #[.int .i64 zop, .int .i64 zn, .string zs, .slice za zl zc] 50)).alloc (.cells #[.int .i64 zop, .int .i64 zn, .string zs, .slice za zl zc] 50)).heap.size = W.heap.size + 2 := by simp
        have hzE : IsE S ((W.alloc (.cells #[.int .i64 zop, .int .i64 zn, .string zs, .slice za zl zc] 50)).alloc (.cells #[.int .i64 zop, .int .i64 zn, .string zs, .slice za zl zc] 50)) roots[k] ⟨zop, zn, zs, za, zl, zc⟩ :=
          hz.below (BelS.of (((Below.refl _ W).alloc (Nat.le_refl _) _).alloc (by simp) _) (fun k hk => Nat.lt_of_lt_of_le (hSlt k hk) hbs.size))
        have hDs : ∀ D ∈ Ds, D < W.heap.size := fun D hD => (Array.getElem?_eq_some_iff.1 (hM.2 D hD)).1
        have hW4 := hbs.size
        obtain ⟨W0, hW0⟩ : ∃ W0, (W.alloc (.cells #[.int .i64 zop, .int .i64 zn, .string zs, .slice za zl zc] 50)).alloc (.cells #[.int .i64 zop, .int .i64 zn, .string zs, .slice za zl zc] 50) = W0 := ⟨_, rfl⟩
        rw [hW0] at bT bb hbs0 hM0 hszW hzE ⊢
        clear hW0
        have hsp := opsEs_split roots k hlt
        have hlen : (opsE roots[k]).length ≤ 1099511627776 := by rw [hsp] at hN; simp at hN; omega
        have hlen2 : (opsEs (roots.take k)).length + (opsE roots[k]).length ≤ 1099511627776 := by rw [hsp] at hN; simp at hN; omega
        refine wpIn_rangeFunc_ownH rfl h1 (gf := 138) (lb := #[.pointer (some ⟨W.heap.size + 1, 0, none⟩)]) rfl trivial (enters_of Tryz.func138 (by kernel_rfl) rfl)
          (nodes_stops Fence.wide rfl (n - 1) trivial trivial rfl (W.heap.size + 1) S W0.heap.size roots[k] ⟨zop, zn, zs, za, zl, zc⟩ W0 bT (fun k hk => Nat.lt_of_lt_of_le (hSlt k hk) hbs0.size) (Nat.le_refl _) hzE hlen) Kp.trans (Kp.put (fun k hk => Nat.lt_of_lt_of_le (hSlt k hk) hbs0.size)) (Below.refl _ _) (fun _ => rfl)
          (fun pre W' => (Boxed W' W2.heap.size 3 (.int .i64 ((opsEs (roots.take k)).length + pre.length : Nat)) ∧ (pre.map Nd.op).any ndS = false ∧ W0.heap.size ≤ W'.heap.size ∧ Marks W' Ds) ∧ BelS S W4 W')
          (fun c pre W' => c = .ret ∧ ∃ (q : List Nd) (y : Nd), pre = q ++ [y] ∧ (q.map Nd.op).any ndS = false ∧ ndS y.op = true ∧ (Boxed W' (w.heap.size + 1) 3 (.int .i64 y.op) ∧ Boxed W' (w.heap.size + 1 + 1) 3 (.int .i64 ((opsEs (roots.take k)).length + q.length : Nat)) ∧ Boxed W' (w.heap.size + 1 + 1 + 1) 4 (.bool true)) ∧ (Marks W' Ds ∧ W4.heap.size ≤ W'.heap.size) ∧ BelS S' W4 W')
          (fun s X Y row hs hg hr => ⟨⟨boxed_own _ 3 (fun (_ : Unit) => Value.int .i64 ((opsEs (roots.take k)).length + s.length : Nat)) () X Y row hs.1.1 hg (fun r e => (hr r e).2), hs.1.2.1, Nat.le_trans hs.1.2.2.1 hg.size, marks_own hs.1.2.2.2 (B := W0.heap.size) (fun D hD => by have := hDs D hD; omega) hg (fun r e => (hr r e).1)⟩,
            belS_own hs.2 (fun k hk => Nat.lt_of_lt_of_le (hSlt k hk) hs.2.size) (B := W0.heap.size) (fun k hk => by have := hSlt k hk; omega) hg (fun r e => (hr r e).1)⟩)
          (fun c s X Y row hs hg hr => by
            obtain ⟨rfl, q, y, e1, e2, e3, ⟨e4, e5, e6⟩, ⟨e7, e8⟩, e9⟩ := hs
            exact ⟨rfl, q, y, e1, e2, e3, ⟨boxed_own _ 3 (fun (_ : Unit) => Value.int .i64 y.op) () X Y row e4 hg (fun r e => (hr r e).2), boxed_own _ 3 (fun (_ : Unit) => Value.int .i64 ((opsEs (roots.take k)).length + q.length : Nat)) () X Y row e5 hg (fun r e => (hr r e).2), boxed_own _ 4 (fun (_ : Unit) => Value.bool true) () X Y row e6 hg (fun r e => (hr r e).2)⟩,
              ⟨marks_own e7 (B := W0.heap.size) (fun D hD => by have := hDs D hD; omega) hg (fun r e => (hr r e).1), Nat.le_trans e8 hg.size⟩, belS_own e9 (fun k hk => Nat.lt_of_lt_of_le (hSlt' k hk) e9.size) (B := W0.heap.size) (fun k hk => by have := hSlt' k hk; omega) hg (fun r e => (hr r e).1)⟩)
          ⟨⟨by simpa using bb, rfl, Nat.le_refl _, hM0⟩, hbs0⟩
          (fun y a' W' => ∃ Bx, W0.heap.size ≤ Bx ∧ Box4 W' Bx y ∧ a'.defers = [] ∧ a'.tmps[8]?.getD undef = .pointer (some ⟨Bx, 0, none⟩) ∧ ∃ a20 a21, a' = { tmps := #[.agg #[c0, c1, c2], .pointer (some ⟨w.heap.size, 0, none⟩), .pointer (some ⟨w.heap.size + 1, 0, none⟩), .pointer (some ⟨w.heap.size + 1 + 1, 0, none⟩), .pointer (some ⟨w.heap.size + 1 + 1 + 1, 0, none⟩), .pointer (some ⟨W2.heap.size, 0, none⟩), undef, a20, .pointer (some ⟨Bx, 0, none⟩), .agg #[c0, c1, c2], .int .i64 0, .bool false, .agg #[c0, c1, c2], .slice (some ⟨b, o, none⟩) roots.length sc, .int .i64 roots.length, .int .i64 k, .bool true, .pointer (some ⟨b, o + k * 4, none⟩), .agg #[.int .i64 zop, .int .i64 zn, .string zs, .slice za zl zc], .agg #[.int .i64 zop, .int .i64 zn, .string zs, .slice za zl zc], a21, y.val, undef, undef, undef, undef, undef, undef, undef, undef, u30], defers := [] })
          (fun y a' _ X Y row hs hg hr => by obtain ⟨Bx, h1, h2, h3⟩ := hs; exact ⟨Bx, h1, h2.kept hg (fun r e => (hr r e).2), h3⟩)
          ?assign ?body ?done ?stop
        case assign =>
          rintro l pre ⟨yop, yn, ys, ya, yl, yc⟩ W' K ⟨⟨bR1, hp1, hz1, hm1⟩, hB1⟩ hK
          dsimp only [Nd.val] at hK ⊢
          have hlt' := bR1.lt
          gi_wp2
          have hbel : Below W'.heap.size W' (W'.alloc (.cells #[.int .i64 yop, .int .i64 yn, .string ys, .slice ya yl yc] 50)) := (Below.refl _ W').alloc (Nat.le_refl _) _
          exact hK _ _ ((KeepsOthers.alloc _ _).from _) (Kp.of_below hbel (fun k hk => Nat.lt_of_lt_of_le (hSlt k hk) hB1.size)) ⟨⟨bR1.alloc _, hp1, by simp; omega, marks_alloc hm1 _⟩, belS_alloc hB1 hSlt _⟩ ⟨W'.heap.size, hz1, Box4.new W' ⟨yop, yn, ys, ya, yl, yc⟩, rfl, rfl, _, _, rfl⟩
        case body =>
          rintro l pre ⟨yop, yn, ys, ya, yl, yc⟩ a' W' hl ⟨rr, hrr⟩ ⟨⟨bR1, hp1, hz1, hm1⟩, hB1⟩ ⟨Bx, hBx, bX, -, -, a20, a21, rfl⟩ hlt2
          obtain ⟨cX, _⟩ := bX.cell
          dsimp only at cX
          have cR := bR1.cell
          have fR := bR1.frozen
          have x2 := (show Boxed W' (w.heap.size + 1) 3 (.int .i64 0) from (hB1.block _ s2).trans q2)
          have x3 := (show Boxed W' (w.heap.size + 1 + 1) 3 (.int .i64 0) from (hB1.block _ s3).trans q3)
          have x4 := (show Boxed W' (w.heap.size + 1 + 1 + 1) 4 (.bool false) from (hB1.block _ s4).trans q4)
          have y2 := x2.cell
          have y3 := x3.cell
          have y4 := x4.cell
          have z2 := x2.frozen
          have z3 := x3.frozen
          have z4 := x4.frozen
          have h1' : 1 ≤ n - 1 - 1 := by omega
          have qq := fun W => nd_in Fence.wide (n - 1 - 1 - 1) trivial rfl yop W
          cases hv1 : ndS yop with
          | true =>
            rw [hv1] at qq
            gi_wp2_with (refine ⟨trivial, ?_⟩; gi_at_call 109; refine (CallsIn.inRound l (qq _)).mono ?_; rintro e w' ⟨rfl, rfl⟩)
            have hmx : Tryz.prog.follows .mixedOrders = true := by kernel_rfl
            have e2 := ((x2.set (.int .i64 yop)).other (B' := w.heap.size + 1 + 1) (by omega) (.int .i64 (((opsEs (roots.take k)).length : Int) + (pre.length : Int)))).other (B' := w.heap.size + 1 + 1 + 1) (by omega) (.bool true)
            have e3 := ((x3.other (B' := w.heap.size + 1) (by omega) (.int .i64 yop)).set (.int .i64 (((opsEs (roots.take k)).length : Int) + (pre.length : Int)))).other (B' := w.heap.size + 1 + 1 + 1) (by omega) (.bool true)
            have e4 := ((x4.other (B' := w.heap.size + 1) (by omega) (.int .i64 yop)).other (B' := w.heap.size + 1 + 1) (by omega) (.int .i64 (((opsEs (roots.take k)).length : Int) + (pre.length : Int)))).set (.bool true)
            rw [← Int.natCast_add] at e2 e3 e4
            have e5 := marks_set (marks_set (marks_set hm1 ⟨w.heap.size + 1, 0, none⟩ (.int .i64 yop)) ⟨w.heap.size + 1 + 1, 0, none⟩ (.int .i64 (((opsEs (roots.take k)).length + pre.length : Nat) : Int))) ⟨w.heap.size + 1 + 1 + 1, 0, none⟩ (.bool true)
            have e6 := belS_set (belS_set (belS_set (hB1.sub hSS) (o := 0) n2' (.int .i64 yop)) (o := 0) n3' (.int .i64 (((opsEs (roots.take k)).length + pre.length : Nat) : Int))) (o := 0) n4' (.bool true)
            have e7 := ((KeepsOthers.setCell w' ⟨w.heap.size + 1, 0, none⟩ (.int .i64 yop)).trans (KeepsOthers.setCell _ ⟨w.heap.size + 1 + 1, 0, none⟩ (.int .i64 (((opsEs (roots.take k)).length + pre.length : Nat) : Int)))).trans (KeepsOthers.setCell _ ⟨w.heap.size + 1 + 1 + 1, 0, none⟩ (.bool true))
            gi_region_o
            all_goals gi_wp2
            all_goals rw [← Int.natCast_add]
            all_goals exact ⟨⟨e7.size, fun k o _ hk ho => e7.same k o hk ho⟩, rfl, pre, ⟨yop, yn, ys, ya, yl, yc⟩, rfl, hp1, hv1, ⟨e2, e3, e4⟩, ⟨⟨e5.1, e5.2⟩, Nat.le_trans hW4 (by simp [World.setCell]; omega)⟩, ⟨e6.os, e6.tape, e6.output, e6.size, e6.block⟩⟩
          | false =>
            rw [hv1] at qq
            gi_wp2_with (refine ⟨trivial, ?_⟩; gi_at_call 109; refine (CallsIn.inRound l (qq _)).mono ?_; rintro e w' ⟨rfl, rfl⟩)
            have ex : (((opsEs (roots.take k)).length + (pre ++ [(⟨yop, yn, ys, ya, yl, yc⟩ : Nd)]).length : Nat) : Int) = ((opsEs (roots.take k)).length : Int) + (pre.length : Int) + 1 := by simp; omega
            refine ⟨(KeepsOthers.setCell _ _ _).from _, ⟨belS_set (BelS.refl _ _) n5 _, fun k o hk ho _ => (Below.heap_setCell _ _ _ _ (by show k ≠ W2.heap.size; omega)).trans ho⟩, ⟨⟨?_, ?_, ?_, marks_set hm1 _ _⟩, belS_set hB1 n5 _⟩⟩
            · rw [ex]; exact bR1.set _
            · simp [hp1, hv1]
            · simpa [World.setCell] using hz1
        case done =>
          rintro D zs' W' hD hzs ⟨⟨bR1, hp1, hz1, hm1⟩, hB1⟩ hK
          gi_wp2
          have ht : opsEs (roots.take (k + 1)) = opsEs (roots.take k) ++ opsE roots[k] := by rw [List.take_succ_eq_append_getElem hlt, opsEs_append]; simp [opsEs]
          refine ⟨⟨k + 1, D :: Ds, _, _, _, _, _, _, _, rfl, by omega, ?_, ?_, hB1, ⟨?_, ?_⟩, ?_⟩, ?_⟩
          · rw [ht, List.any_append, hnd, ← hzs, hp1]; rfl
          · rw [ht, List.length_append, ← hzs, List.length_map]; exact bR1
          · rw [List.nodup_cons]
            exact ⟨fun h => by have := hDs D h; omega, hm1.1⟩
          · intro D' hD'
            rcases List.mem_cons.1 hD' with rfl | hD'
            · exact hK
            · exact hm1.2 D' hD'
          · intro D' hD'
            rcases List.mem_cons.1 hD' with rfl | hD'
            · omega
            · exact hMb D' hD'
          · simp [intOf]; omega
        case stop =>
          rintro D c pre W' hD hpre ⟨rfl, q, y, rfl, hq, hy, ⟨e4, e5, e6⟩, ⟨e7, e8⟩, e9⟩ hK
          gi_wp2
          refine fin2 _ y.op ((opsEs (roots.take k)).length + q.length : Nat) true (D :: Ds) W' rfl rfl rfl ?_ e4 e5 e6 e9 ⟨?_, ?_⟩ ?_
          · obtain ⟨t, ht⟩ := hpre
            have e : opsEs roots = (opsEs (roots.take k) ++ q.map Nd.op) ++ (y.op :: (t ++ opsEs (roots.drop (k + 1)))) := by rw [hsp, ← ht]; simp
            rw [hr, e, fstS_app _ _ _ (by rw [List.any_append, hnd, hq]; rfl), fstS, if_pos hy]
            simp
          · rw [List.nodup_cons]
            exact ⟨fun h => by have := hDs D h; omega, e7.1⟩
          · intro D' hD'
            rcases List.mem_cons.1 hD' with rfl | hD'
            · exact hK
            · exact e7.2 D' hD'
          · intro D' hD'
            rcases List.mem_cons.1 hD' with rfl | hD'
            · omega
            · exact hMb D' hD'
      · obtain rfl : k = roots.length := by omega
        have c2 := (show Boxed W (w.heap.size + 1) 3 (.int .i64 0) from (hbs.block _ s2).trans q2)
        have c3 := (show Boxed W (w.heap.size + 1 + 1) 3 (.int .i64 0) from (hbs.block _ s3).trans q3)
        have c4 := (show Boxed W (w.heap.size + 1 + 1 + 1) 4 (.bool false) from (hbs.block _ s4).trans q4)
        have d2 := c2.cell
        have d3 := c3.cell
        have d4 := c4.cell
        have h2 := c2.frozen
        have h3 := c3.frozen
        have h4 := c4.frozen
        gi_wp2
        have e2 := ((c2.set (.int .i64 0)).other (B' := w.heap.size + 1 + 1) (by omega) (.int .i64 0)).other (B' := w.heap.size + 1 + 1 + 1) (by omega) (.bool false)
        have e3 := ((c3.other (B' := w.heap.size + 1) (by omega) (.int .i64 0)).set (.int .i64 0)).other (B' := w.heap.size + 1 + 1 + 1) (by omega) (.bool false)
        have e4 := ((c4.other (B' := w.heap.size + 1) (by omega) (.int .i64 0)).other (B' := w.heap.size + 1 + 1) (by omega) (.int .i64 0)).set (.bool false)
        have e5 := marks_set (marks_set (marks_set hM ⟨w.heap.size + 1, 0, none⟩ (.int .i64 0)) ⟨w.heap.size + 1 + 1, 0, none⟩ (.int .i64 0)) ⟨w.heap.size + 1 + 1 + 1, 0, none⟩ (.bool false)
        have e6 := belS_set (belS_set (belS_set (hbs.sub hSS) (o := 0) n2' (.int .i64 0)) (o := 0) n3' (.int .i64 0)) (o := 0) n4' (.bool false)
        refine fin2 _ 0 0 false Ds _ rfl rfl rfl ?_ e2 e3 e4 e6 e5 hMb
        rw [List.take_length] at hnd
        rw [hr, fstS_none _ _ hnd]
  · rw [if_neg hz] at hr
    gi_wp2_with (refine ⟨trivial, ?_⟩; gi_at_call 70; refine hcall1.mono ?_; clear hcall1; rintro en W2 ⟨v2, g2, rfl, rv2, hw2, hev2⟩; have e2 := dInt rv2; subst e2
                 obtain ⟨p2, f2⟩ := fin hev2 (b := w.heap.size + 1) (by omega) (by omega); obtain ⟨p3, f3⟩ := fin hev2 (b := w.heap.size + 1 + 1) (by omega) (by omega); obtain ⟨p4, f4⟩ := fin hev2 (b := w.heap.size + 1 + 1 + 1) (by omega) (by omega)
                 have q2 : Boxed W2 (w.heap.size + 1) 3 (.int .i64 0) := p2.trans b2
                 have q3 : Boxed W2 (w.heap.size + 1 + 1) 3 (.int .i64 0) := p3.trans b3
                 have q4 : Boxed W2 (w.heap.size + 1 + 1 + 1) 4 (.bool false) := p4.trans b4
                 have y2 := q2.cell; have y3 := q3.cell; have y4 := q4.cell; have z2 := q2.frozen; have z3 := q3.frozen; have z4 := q4.frozen)
    have e2 := ((q2.set (.int .i64 0)).other (B' := w.heap.size + 1 + 1) (by omega) (.int .i64 0)).other (B' := w.heap.size + 1 + 1 + 1) (by omega) (.bool false)
    have e3 := ((q3.other (B' := w.heap.size + 1) (by omega) (.int .i64 0)).set (.int .i64 0)).other (B' := w.heap.size + 1 + 1 + 1) (by omega) (.bool false)
    have e4 := ((q4.other (B' := w.heap.size + 1) (by omega) (.int .i64 0)).other (B' := w.heap.size + 1 + 1) (by omega) (.int .i64 0)).set (.bool false)
    have hW2 := hev2.size
    obtain ⟨hwf, hef⟩ := ev_other (hev1.trans hev2) hw2 (W' := ((W2.setCell ⟨w.heap.size + 1, 0, none⟩ (.int .i64 0)).setCell ⟨w.heap.size + 1 + 1, 0, none⟩ (.int .i64 0)).setCell ⟨w.heap.size + 1 + 1 + 1, 0, none⟩ (.bool false)) (by simp [World.setCell]) [w.heap.size + 1, w.heap.size + 1 + 1, w.heap.size + 1 + 1 + 1]
      (fun b hb => by
        simp only [List.mem_cons, List.mem_nil_iff, or_false] at hb
        rcases hb with rfl | rfl | rfl
        · exact ⟨by omega, f2⟩
        · exact ⟨by omega, f3⟩
        · exact ⟨by omega, f4⟩)
      (fun b h hO => by
        simp only [List.mem_cons, List.mem_nil_iff, or_false, not_or] at hO
        exact ((Below.heap_setCell _ _ _ _ hO.2.2).trans (Below.heap_setCell _ _ _ _ hO.2.1)).trans (Below.heap_setCell _ _ _ _ hO.1))
      ⟨rfl, rfl⟩
    refine ⟨.tuple #[.int .i64 0, .int .i64 0, .bool false], ?_, _, g2, rfl, ?_, hwf, hef⟩
    · simp [results, Tryz.results81, go_sem, e2.cell, e3.cell, e4.cell]
    · rw [hr]
      refine .tuple _ [.int .i64 0, .int .i64 0, .bool false] rfl fun i x v h1 h2 => ?_
      match i with
      | 0 => simp at h1 h2; subst h1; subst h2; exact .d _ _ (.int _ _)
      | 1 => simp at h1 h2; subst h1; subst h2; exact .d _ _ (.int _ _)
      | 2 => simp at h1 h2; subst h1; subst h2; exact .d _ _ (.bool _)
      | i + 3 => simp at h1
end Go.Proofs.YtjmghomnbmbjnaaGreat
