/- Every operation that yields a value, but for calls of functions. -/
import Derived.Test.YtfoibmfocmjmdaaAbsVal
set_option linter.unusedVariables false
set_option linter.unusedSimpArgs false
set_option linter.all false
set_option linter.deprecated false
namespace Go.Abs

section
variable {P : Program} {W W' W0 : World} {g g' g0 : Gh} {A A' A0 : AHeap} {N nt : Nat} {β : Nat → Nat} {env : AEnv} {a : Act}

theorem nilCheck_rel {x : AV} {v : Value} (h : RelV W g A x v) (hx : (∃ id off, x = .ptr id off) ∨ (∃ cs, x = .sptr cs) ∨ ∃ t l i o, x = .eptr t l i o) : ∃ ad, v = .pointer (some ad) := by
  rcases hx with ⟨id, off, rfl⟩ | ⟨cs, rfl⟩ | ⟨t, l, i, o, rfl⟩ <;> cases h <;> exact ⟨_, rfl⟩

theorem unary_rel (hw : WRel W g A) {op : UnOp} {x y : AV} {v : Value} (hv : RelV W g A x v) (h : aun op x = some y) : ∃ r, (Op.unary op v).run P W = .ok r W ∧ RelV W g A y r := by
  unfold aun at h
  split at h
  · cases op <;> simp only at h <;> try (cases h; done)
    cases h
    rw [hv.dBool]
    exact ⟨_, by simp [Op.unary] <;> rfl, .bool _⟩
  · cases op <;> simp only at h <;> try (cases h; done)
    cases h
    rw [hv.dInt]
    exact ⟨_, by simp [Op.unary, Op.intArith] <;> rfl, .int _ _⟩
  · cases h

theorem conv_rel {s t : TypeId} {x y : AV} {v : Value} (hv : RelV W g A x v) (h : aconv P s t x = some y) : ∃ r, (convert s t v).run P W = .ok r W ∧ RelV W g A y r := by
  unfold aconv at h
  split at h
  · rename_i k n
    rw [Option.map_eq_some_iff] at h
    obtain ⟨k', hk, rfl⟩ := h
    rw [hv.dInt]
    unfold convT at hk
    split at hk
    · rename_i d k2 hs ht
      cases hk
      exact ⟨_, by simp only [convert, Sem.run_bind, run_underlying hs, run_underlying ht, Result.andThen_ok]; rfl, .int _ _⟩
    · cases hk
  · rename_i z
    split at h
    · rename_i hc
      cases h
      simp only [Bool.and_eq_true] at hc
      obtain ⟨b, rfl, hb⟩ := hv.dStr
      have hs := strT_true hc.1
      have ht := strT_true hc.2
      exact ⟨.string b, by simp only [convert, Sem.run_bind, run_underlying hs, run_underlying ht, Result.andThen_ok]; rfl, hv⟩
    · cases h
  · cases h

theorem build_rel (hw : WRel W g A) {t : TypeId} {z : AV} {fs : List (Nat × Nat)} (hz : zeroT P t = some z) (hf : fieldsT P t = some fs) {ps : List (Nat × AV)} {qs : Array (Nat × Value)} (hl : ps.length = qs.toList.length)
    (hps : ∀ (i : Nat) (p : Nat × AV) (q : Nat × Value), ps[i]? = some p → qs.toList[i]? = some q → p.1 = q.1 ∧ RelV W g A p.2 q.2) {cs : List AV} (hc : afill (fun i => fs[i]?) z.cells ps = some cs) :
    ∃ v, (Instr.build t qs).run P W = .ok v W ∧ RelV W g A (.agg cs) v := by
  obtain ⟨i, zv, hi, hzv, hza⟩ := zeroT_some hz
  have hzc := cells_rel (aval_rel (W := W) (g := g) (A := A) hza)
  obtain ⟨vs', hfill, hr⟩ := fill_rel hzc hl hps hc
  unfold fieldsT at hf
  split at hf
  · rename_i fields hu
    have hp := fieldsL_places hf
    refine ⟨.agg vs', run_build W t qs vs' ?_, hr.aggA⟩
    unfold Program.built
    simp only [hi, hu, hzv, hp]
    simpa using hfill
  · cases hf

theorem sliceAt_rel (hw : WRel W g A) {t : TypeId} {x y : AV} {u : Value} (hx : RelV W g A x u) {lo hi : Option AV} {vlo vhi : Option Value} (hlo : (lo = none ∧ vlo = none) ∨ ∃ p q, lo = some p ∧ vlo = some q ∧ RelV W g A p q) (hhi : (hi = none ∧ vhi = none) ∨ ∃ p q, hi = some p ∧ vhi = some q ∧ RelV W g A p q)
    (h : (match some x, lo.map some, hi.map some with
    | some (.d (.str s)), none, some (some (.d (.int _ h))) => if strT P t = true ∧ 0 ≤ h ∧ h ≤ s.length then some (AV.d (.str (s.take h.toNat)), A) else none
    | some (.d (.str s)), some (some (.d (.int _ l))), none => if strT P t = true ∧ 0 ≤ l ∧ l ≤ s.length then some (.d (.str (s.drop l.toNat)), A) else none
    | some (.d (.slice rows)), none, some (some (.d (.int _ h))) => if (elemT P t).isSome = true ∧ 0 ≤ h ∧ h ≤ rows.length then some (.d (.slice (rows.take h.toNat)), A) else none
    | _, _, _ => none) = some (y, A')) : A' = A ∧ ∃ r, (Instr.sliceAt t u vlo vhi none).run P W = .ok r W ∧ RelV W g A y r := by
  split at h
  · rename_i s k n hx' hlo' hhi'
    split at h
    case isFalse => cases h
    rename_i hc
    cases h
    cases hx'
    have hlo1 : lo = none := by cases lo <;> simp at hlo' ⊢
    subst hlo1
    have hhi1 : hi = some (.d (.int k n)) := by cases hi <;> simp at hhi'; rw [hhi']
    subst hhi1
    obtain rfl : vlo = none := by rcases hlo with ⟨_, h⟩ | ⟨p, q, h, _⟩; exact h; cases h
    obtain rfl : vhi = some (.int k n) := by
      rcases hhi with ⟨h, _⟩ | ⟨p, q, h, h2, hr⟩
      · cases h
      · cases h; rw [h2, hr.dInt]
    obtain ⟨b, rfl, hb⟩ := hx.dStr
    subst hb
    have hsz : b.data.toList.length = b.size := by rw [Array.length_toList]; rfl
    rw [hsz] at hc
    have hu := strT_true hc.1
    refine ⟨rfl, .string (b.extract 0 n.toNat), ?_, ?_⟩
    · simp [Instr.sliceAt, Instr.slice, run_underlying hu, Instr.sliceBounds, Instr.sliceBound, asIntOf, hc.2.1, hc.2.2]
    · have e : (b.extract 0 n.toNat).data.toList = b.data.toList.take n.toNat := by simp
      rw [← e]
      exact .str _
  · rename_i s k n hx' hlo' hhi'
    split at h
    case isFalse => cases h
    rename_i hc
    cases h
    cases hx'
    have hhi1 : hi = none := by cases hi <;> simp at hhi' ⊢
    subst hhi1
    have hlo1 : lo = some (.d (.int k n)) := by cases lo <;> simp at hlo'; rw [hlo']
    subst hlo1
    obtain rfl : vhi = none := by rcases hhi with ⟨_, h⟩ | ⟨p, q, h, _⟩; exact h; cases h
    obtain rfl : vlo = some (.int k n) := by
      rcases hlo with ⟨h, _⟩ | ⟨p, q, h, h2, hr⟩
      · cases h
      · cases h; rw [h2, hr.dInt]
    obtain ⟨b, rfl, hb⟩ := hx.dStr
    subst hb
    have hsz : b.data.toList.length = b.size := by rw [Array.length_toList]; rfl
    rw [hsz] at hc
    have hu := strT_true hc.1
    refine ⟨rfl, .string (b.extract n.toNat b.size), ?_, ?_⟩
    · simp [Instr.sliceAt, Instr.slice, run_underlying hu, Instr.sliceBounds, Instr.sliceBound, asIntOf, hc.2.1, hc.2.2]
    · have e : (b.extract n.toNat b.size).data.toList = b.data.toList.drop n.toNat := by
        simp only [ByteArray.data_extract, Array.toList_extract, List.extract_eq_take_drop]
        rw [List.take_of_length_le]
        simp [hsz]
      rw [← e]
      exact .str _
  · rename_i rows k n hx' hlo' hhi'
    split at h
    case isFalse => cases h
    rename_i hc
    cases h
    cases hx'
    have hlo1 : lo = none := by cases lo <;> simp at hlo' ⊢
    subst hlo1
    have hhi1 : hi = some (.d (.int k n)) := by cases hi <;> simp at hhi'; rw [hhi']
    subst hhi1
    obtain rfl : vlo = none := by rcases hlo with ⟨_, h⟩ | ⟨p, q, h, _⟩; exact h; cases h
    obtain rfl : vhi = some (.int k n) := by
      rcases hhi with ⟨h, _⟩ | ⟨p, q, h, h2, hr⟩
      · cases h
      · cases h; rw [h2, hr.dInt]
    obtain ⟨he, h0, hle⟩ := hc
    obtain ⟨⟨e, sz⟩, hel⟩ := Option.isSome_iff_exists.1 he
    obtain ⟨hu, agg, hk⟩ := elemT_some hel
    have key : ∀ (ad : Option Addr) (cap len : Nat), len ≤ cap → n.toNat ≤ cap → (Instr.sliceAt t (.slice ad len cap) none (some (.int k n)) none).run P W = .ok (.slice ad n.toNat cap) W := by
      intro ad cap len h1 h2
      have h3 : n ≤ (cap : Int) := by omega
      have h4 : (if cap = 0 then ad else Option.map (fun x => x.add 0) ad) = ad := by
        have : ∀ x : Addr, x.add 0 = x := fun x => by simp [Addr.add]
        cases ad <;> simp [this]
      simp [Instr.sliceAt, Instr.slice, run_underlying hu, Instr.sliceBounds, Instr.sliceBound, asIntOf, h0, h3, run_sizeOf hk, h4]
    cases hx with
    | d _ _ hd =>
    refine ⟨rfl, ?_⟩
    generalize hdd : Dat.slice rows = dd at hd
    cases hd with
    | bool => cases hdd
    | int => cases hdd
    | str => cases hdd
    | empty ad cap =>
      cases hdd
      have : n.toNat = 0 := by simp at hle; omega
      refine ⟨_, key ad cap 0 (Nat.zero_le _) (by omega), ?_⟩
      rw [this]
      exact .d _ _ (.empty ad cap)
    | slice rows' b o cap sz' val hcap hlen hcell hval =>
      cases hdd
      have hn : n.toNat ≤ rows.length := by omega
      refine ⟨_, key (some ⟨b, o, none⟩) cap rows.length hcap (by omega), ?_⟩
      have hget : ∀ (i : Nat) (row : List Dat), (rows.take n.toNat)[i]? = some row → rows[i]? = some row := by
        intro i row h
        rw [List.getElem?_take] at h
        split at h
        · exact h
        · cases h
      have := RelD.slice (W := W) (S := g.S) (rows.take n.toNat) b o cap sz' val (by simp; omega) (fun i row h => hlen i row (hget i row h)) (fun i j row c h1 h2 => hcell i j row c (hget i row h1) h2) (fun i j row c h1 h2 => hval i j row c (hget i row h1) h2)
      rw [List.length_take, Nat.min_eq_left hn] at this
      exact .d _ _ this
  · cases h

theorem afold_rel (mx : Bool) : ∀ {xs : List AV} {vs : List Value} {x y : AV} {v : Value}, RelV W g A x v → RelL W g A xs vs → afold (if mx then amax2 else amin2) x xs = some y →
    ∃ r, (vs.foldlM (if mx then Builtin.max2 else Builtin.min2) v).run P W = .ok r W ∧ RelV W g A y r
  | [], [], x, y, v, hx, hl, h => by cases h; exact ⟨v, by simp, hx⟩
  | [], _ :: _, x, y, v, hx, hl, h => by have := hl.1; simp at this
  | _ :: _, [], x, y, v, hx, hl, h => by have := hl.1; simp at this
  | z :: xs, w :: vs, x, y, v, hx, hl, h => by
    simp only [afold, Option.bind_eq_some_iff] at h
    obtain ⟨q, hq, h⟩ := h
    have hz := hl.2 0 z w rfl rfl
    have hl' : RelL W g A xs vs := ⟨by have := hl.1; simpa using this, fun i p r h1 h2 => hl.2 (i + 1) p r (by simpa using h1) (by simpa using h2)⟩
    have step : ∃ r, ((if mx then Builtin.max2 else Builtin.min2) v w).run P W = .ok r W ∧ RelV W g A q r := by
      cases mx
      · simp only [Bool.false_eq_true, if_false] at hq ⊢
        unfold amin2 at hq
        split at hq
        · cases hq
          rw [hx.dInt, hz.dInt]
          exact ⟨_, rfl, .int _ _⟩
        · cases hq
      · simp only [if_true] at hq ⊢
        unfold amax2 at hq
        split at hq
        · cases hq
          rw [hx.dInt, hz.dInt]
          exact ⟨_, rfl, .int _ _⟩
        · cases hq
    obtain ⟨r, hr, hr2⟩ := step
    obtain ⟨s, hs, hs2⟩ := afold_rel mx hr2 hl' h
    exact ⟨s, by simp [List.foldlM_cons, hr, hs], hs2⟩

theorem len_rel (hw : WRel W g A) {t ty : TypeId} {ts : Array TypeId} (hts : ts[0]? = some t) {x : AV} {v : Value} (hx : RelV W g A x v) {n : Nat} (h : alen A (lenT P t) x = some n) :
    (Builtin.len_ ts ty #[v]).run P W = .ok (.int .i64 n) W := by
  have hlt : ∀ k, lenT P t = k → k ≠ 0 → ∃ d, P.underlying t = some d ∧ (k = 1 → d = .string) ∧ (k = 2 → ∃ e, d = .slice e) ∧ (k = 3 → ∃ a b, d = .map a b) := by
    intro k hk h0
    unfold lenT at hk
    split at hk <;> rename_i hu
    · exact ⟨_, hu, fun _ => rfl, fun h => by omega, fun h => by omega⟩
    · exact ⟨_, hu, fun h => by omega, fun _ => ⟨_, rfl⟩, fun h => by omega⟩
    · exact ⟨_, hu, fun h => by omega, fun h => by omega, fun _ => ⟨_, _, rfl⟩⟩
    · omega
  cases hx with
  | d y v hd =>
    cases hd with
    | str s =>
      simp only [alen] at h
      split at h <;> cases h
      rename_i hk
      obtain ⟨d, hu, h1, _, _⟩ := hlt 1 hk (by omega)
      have := h1 rfl; subst this
      have hsz : s.data.toList.length = s.size := by rw [Array.length_toList]; rfl
      simp [Builtin.len_, hts, run_underlying hu, goInt, hsz]
    | empty ad cap =>
      simp only [alen] at h
      split at h <;> cases h
      rename_i hk
      obtain ⟨d, hu, _, h1, _⟩ := hlt 2 hk (by omega)
      obtain ⟨e, rfl⟩ := h1 rfl
      simp [Builtin.len_, hts, run_underlying hu, goInt]
    | slice rows b o cap sz val hcap hlen hcell hval =>
      simp only [alen] at h
      split at h <;> cases h
      rename_i hk
      obtain ⟨d, hu, _, h1, _⟩ := hlt 2 hk (by omega)
      obtain ⟨e, rfl⟩ := h1 rfl
      simp [Builtin.len_, hts, run_underlying hu, goInt]
    | _ => simp [alen] at h
  | nilS =>
    simp only [alen] at h
    split at h <;> cases h
    rename_i hk
    obtain ⟨d, hu, _, h1, _⟩ := hlt 2 hk (by omega)
    obtain ⟨e, rfl⟩ := h1 rfl
    simp [Builtin.len_, hts, run_underlying hu, goInt]
  | full rows ad hd =>
    simp only [alen] at h
    split at h <;> cases h
    rename_i hk
    obtain ⟨d, hu, _, h1, _⟩ := hlt 2 hk (by omega)
    obtain ⟨e, rfl⟩ := h1 rfl
    simp [Builtin.len_, hts, run_underlying hu, goInt]
  | own tok len ad cap ht hh =>
    simp only [alen] at h
    split at h <;> cases h
    rename_i hk
    obtain ⟨d, hu, _, h1, _⟩ := hlt 2 hk (by omega)
    obtain ⟨e, rfl⟩ := h1 rfl
    simp [Builtin.len_, hts, run_underlying hu, goInt]
  | mapr id hid =>
    simp only [alen] at h
    split at h
    case isFalse => cases h
    rename_i hk
    split at h
    case h_2 => cases h
    rename_i es hes
    cases h
    obtain ⟨d, hu, _, _, h1⟩ := hlt 3 hk (by omega)
    obtain ⟨k, e, rfl⟩ := h1 rfl
    obtain ⟨_, mes, clock, hb, hsz, _⟩ := hw.obj id _ hes
    have hg := MapKept.run_getObj_map (P := P) hb
    simp [Builtin.len_, hts, run_underlying hu, hg, goInt, hsz]
  | _ => simp [alen] at h

theorem builtin_rel (hw : WRel W g A) {b : Builtin} {ts : Array TypeId} {ty : TypeId} {xs : List AV} {vs : Array Value} {cn : Array Bool} (hx : RelL W g A xs vs.toList) {y : AV} (h : abuiltin P b ts xs A = some (y, A')) : Outs P W g A A' y (builtin b ts ty cn vs) := by
  unfold abuiltin at h
  split at h
  · rename_i x
    split at h
    case h_2 => cases h
    rename_i t ht
    rw [Option.map_eq_some_iff] at h
    obtain ⟨n, hn, h⟩ := h
    cases h
    obtain ⟨v, rfl⟩ : ∃ v, vs = #[v] := by
      have := hx.1
      obtain ⟨l⟩ := vs
      match l, this with
      | [v], _ => exact ⟨v, rfl⟩
    have hr := len_rel (P := P) (ty := ty) hw ht (hx.2 0 x v rfl rfl) hn
    exact .sem hw hr (.int _ _)
  · rename_i x y'
    split at h
    case h_2 => cases h
    rename_i t u hts
    split at h
    case isFalse => cases h
    rename_i htu
    subst htu
    split at h
    case h_2 => cases h
    rename_i e he
    rw [Option.bind_eq_some_iff] at h
    obtain ⟨src, hs, h⟩ := h
    obtain ⟨v1, v2, rfl⟩ : ∃ v1 v2, vs = #[v1, v2] := by
      have := hx.1
      obtain ⟨l⟩ := vs
      match l, this with
      | [v1, v2], _ => exact ⟨v1, v2, rfl⟩
    have hts' : ts = #[t, t] := by obtain ⟨l⟩ := ts; simp at hts; rw [hts]
    subst hts'
    obtain ⟨hu, agg, hk⟩ := elemT_some he
    obtain ⟨v, W', g', hr, r1, r2, r3⟩ := append_rel (ty := ty) hw hu hk (hx.2 0 x v1 rfl rfl) (hx.2 1 y' v2 rfl rfl) hs h
    exact .semW hr r1 r2 r3
  · rename_i m k
    split at h
    case h_2 => cases h
    rename_i t ht
    rw [Option.map_eq_some_iff] at h
    obtain ⟨A1, hd, h⟩ := h
    cases h
    obtain ⟨v1, v2, rfl⟩ : ∃ v1 v2, vs = #[v1, v2] := by
      have := hx.1
      obtain ⟨l⟩ := vs
      match l, this with
      | [v1, v2], _ => exact ⟨v1, v2, rfl⟩
    obtain ⟨W', hr, r2, r3⟩ := delete_rel (ty := ty) hw ht (hx.2 0 m v1 rfl rfl) (hx.2 1 k v2 rfl rfl) hd
    exact .semW hr undef_rel r2 r3
  · rename_i x xs
    rw [Option.map_eq_some_iff] at h
    obtain ⟨y', hy, h⟩ := h
    cases h
    obtain ⟨v, vl, rfl⟩ : ∃ v vl, vs = (v :: vl).toArray := by
      have := hx.1
      obtain ⟨l⟩ := vs
      match l, this with
      | v :: vl, _ => exact ⟨v, vl, rfl⟩
    obtain ⟨r, hr, hr2⟩ := afold_rel (P := P) true (hx.2 0 x v rfl rfl) (show RelL W g A xs vl from ⟨by have := hx.1; simpa using this, fun i p q h1 h2 => hx.2 (i + 1) p q (by simpa using h1) (by simpa using h2)⟩) hy
    exact .sem hw (by simpa [Builtin.max_] using hr) hr2
  · rename_i x xs
    rw [Option.map_eq_some_iff] at h
    obtain ⟨y', hy, h⟩ := h
    cases h
    obtain ⟨v, vl, rfl⟩ : ∃ v vl, vs = (v :: vl).toArray := by
      have := hx.1
      obtain ⟨l⟩ := vs
      match l, this with
      | v :: vl, _ => exact ⟨v, vl, rfl⟩
    obtain ⟨r, hr, hr2⟩ := afold_rel (P := P) false (hx.2 0 x v rfl rfl) (show RelL W g A xs vl from ⟨by have := hx.1; simpa using this, fun i p q h1 h2 => hx.2 (i + 1) p q (by simpa using h1) (by simpa using h2)⟩) hy
    exact .sem hw (by simpa [Builtin.min_] using hr) hr2
  · cases h

end
end Go.Abs
