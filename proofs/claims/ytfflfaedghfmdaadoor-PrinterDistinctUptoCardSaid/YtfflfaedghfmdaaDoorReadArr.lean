/- Reading an argument that is an array of two expressions. -/
import Derived.OpenShut
import Derived.Test.YtfflfaedghfmdaaDoorReadArgs9
import Derived.Test.YtfflfaedghfmdaaDoorSeatP
set_option linter.unusedVariables false
set_option linter.unusedSimpArgs false
set_option linter.all false
set_option linter.deprecated false
set_option linter.all false
namespace Go.Proofs.YtfflfaedghfmdaaDoor
open Go.Abs
set_option maxRecDepth 100000
def goodT2 : List TypeId := 29 :: goodT
/-- two expressions, one behind the other -/
def Two (x : AV) : Prop := ∃ e f : E, (e.Ok ∧ f.Ok) ∧ x = arrE e f
def Good2 (t : TypeId) (x : AV) : Prop := if t = 29 then Two x else Good t x
theorem good2_one {t : TypeId} {x : AV} (h : Good2 t x) (ht : t ≠ 29) : Good t x := by unfold Good2 at h; rwa [if_neg ht] at h
theorem goodPair {x : AV} (h : Good2 29 x) : ∃ l : E × E, (l.1.Ok ∧ l.2.Ok) ∧ x = arrE l.1 l.2 := by
  unfold Good2 at h
  rw [if_pos rfl] at h
  obtain ⟨e, f, h1, h2⟩ := h
  exact ⟨(e, f), h1, h2⟩
theorem arr_in : goodT.contains 29 = false := by kernel_rfl
theorem cellsArr : Tryd.prog.cellsOf 29 = 8 := by kernel_rfl
theorem cellsE : Tryd.prog.cellsOf 28 = 4 := by kernel_rfl
theorem expr_in : goodT.contains 28 = true := by kernel_rfl
theorem good2_rd {H : Type} {enc : TypeId × Value → H} {W : World} {base : Nat} : ∀ t v (d : DataW H) ps, t ∈ goodT2 → Value.okWide Tryd.prog W .any base t v → DataW.Trod enc Tryd.prog W 0 (fun _ => true) true t v d ps → Rows.uptoBulk d ≤ 1048576 →
    ∃ x, Good2 t x ∧ ∀ A, RelV W (gh0 W) A x v := by
  intro t v d ps ht hw h hb
  by_cases hta : t = 29
  · subst hta
    have hu := Tryd.underlying29
    unfold Value.okWide at hw
    rw [hu] at hw
    obtain ⟨cs, rfl, -, -⟩ := hw
    obtain ⟨n, hn⟩ := h
    obtain ⟨xs, m, rfl, hx, hlen, hxl, hel⟩ := DataW.trod_array hu hn
    rw [cellsE] at hel
    rw [cellsArr] at hlen
    obtain ⟨x0, x1, rfl⟩ : ∃ x0 x1, xs = [x0, x1] := by
      match xs, hxl with
      | [x0, x1], _ => exact ⟨x0, x1, rfl⟩
    injection hx with hx _
    subst hx
    have h0 := hel 0 (by decide)
    have h1 := hel 1 (by decide)
    simp only [List.getElem?_cons_zero, List.getElem?_cons_succ, Nat.zero_mul, Nat.one_mul, List.drop_zero] at h0 h1
    have hb' : Rows.uptoBulk x0.1 + (Rows.uptoBulk x1.1 + 0) + 1 ≤ 1048576 := hb
    obtain ⟨ds0, r0, s0, _⟩ := readW (N := 1048576) plan bulkW m 28 _ _ expr_in h0 (by omega)
    obtain ⟨ds1, r1, s1, _⟩ := readW (N := 1048576) plan bulkW m 28 _ _ expr_in h1 (by omega)
    obtain ⟨e0, ok0, rfl⟩ := readE exprTy (by decide) m ds0 s0
    obtain ⟨e1, ok1, rfl⟩ := readE exprTy (by decide) m ds1 s1
    have hr := r0.append r1
    have hcs : (cs.toList.take 4 ++ (cs.toList.drop 4).take 4) = cs.toList := by
      change cs.toList.length = 8 at hlen
      rw [List.take_of_length_le (l := cs.toList.drop 4) (by rw [List.length_drop]; omega), List.take_append_drop]
    change ReadDs W _ _ (cs.toList.take 4 ++ (cs.toList.drop 4).take 4) at hr
    rw [hcs] at hr
    refine ⟨.agg ((e0.row ++ e1.row).map .d), ?_, fun A => rel_agg hr⟩
    unfold Good2
    rw [if_pos rfl]
    exact ⟨e0, e1, ⟨ok0, ok1⟩, by rw [E.row_eq, E.row_eq]; rfl⟩
  · have ht' : t ∈ goodT := by
      rcases List.mem_cons.1 ht with h | h
      · exact absurd h hta
      · exact h
    obtain ⟨x, h1, h2⟩ := good_rd t v d ps ht' hw h hb
    exact ⟨x, by unfold Good2; rw [if_neg hta]; exact h1, h2⟩
theorem lawG2 {H : Type} {enc : TypeId × Value → H} {f : FuncId} {fn : Func} {s : ChangeSpec} {W : World} {base : Nat} {args : Array Value} {ds gs : List (DataW H)} {before : List MemPlace}
    (hpar : fn.params.toList.all (goodT2.contains ·) = true) (hres : fn.resultTypes = #[4]) (hvars : s.vars = []) (hfn : ∀ ds : List (DataW H), ds.length = fn.params.toList.length → s.fn H ds = { results := [.lit (.bool true)], args := ds })
    (hval : ∀ (j : Nat) t v, fn.params[j]? = some t → args[j]? = some v → Value.okWide Tryd.prog W .any base t v)
    (hW : DataW.Whole enc Tryd.prog fn.params.toList s.vars false W args.toList ds gs before) (hk : Rows.uptoSmall H (ds ++ gs) = true)
    (hi : Lib.TabIs Tryd.prog W "internal/strconv.uint64pow10" .u64 Lib.pow10Tab)
    (law : ∀ xs, goods Good2 fn.params.toList xs → acl C f xs A00 = some (.d (.bool true), A00)) :
    Calls Tryd.prog f args W fun e W' => ∃ v, e = .returned v ∧ s.post enc Tryd.prog fn false true false false W args v W' := by
  have hT : ∀ t ∈ fn.params.toList, t ∈ goodT2 := fun t ht => by
    have := List.all_eq_true.1 hpar t ht
    exact List.contains_iff_mem.1 this
  have hsz : Rows.uptoBulkAll (ds ++ gs) ≤ 1048576 := by simpa [Rows.uptoSmall] using hk
  exact lawNI hi laid (fun t ht => by
      have : goodT2.all (fun t => Tryd.prog.readableRec t && decide (t < Tryd.prog.types.size)) = true := by kernel_rfl
      have := List.all_eq_true.1 this t (hT t ht)
      simpa using this) hT hres Tryd.underlying4 (by kernel_rfl) hvars hfn hval hW
    (fun d hd => Nat.le_trans (bulk_mem (List.mem_append_left _ hd)) hsz) good2_rd law
end Go.Proofs.YtfflfaedghfmdaaDoor
