/- How several arguments of the laws are read, each by its type. -/
import Derived.Test.YtfoibmfocmjmdaaSeatC
import Derived.Test.YtfoibmfocmjmdaaGenD
set_option linter.unusedVariables false
set_option linter.unusedSimpArgs false
set_option linter.all false
set_option linter.deprecated false
set_option linter.all false
namespace Go.Proofs.Ytfoibmfocmjmdaa
open Go.ChangeShapes Go.WideShapes Go.ChangeAt Go.RowKit
open Go.Abs
def Good (t : TypeId) (x : AV) : Prop := (t = 35 ∧ ∃ p : Pr, p.Ok ∧ x = .agg (p.row.map .d)) ∨ (t = 9 ∧ ∃ s : Bytes, s.length ≤ 1048576 ∧ x = .d (.str s))
theorem goodProc {x : AV} (h : Good 35 x) : ∃ p : Pr, p.Ok ∧ x = .agg (p.row.map .d) := by
  rcases h with ⟨_, h⟩ | ⟨h, _⟩
  · exact h
  · exact absurd h (by decide)
theorem goodStr {x : AV} (h : Good 9 x) : ∃ s : Bytes, s.length ≤ 1048576 ∧ x = .d (.str s) := by
  rcases h with ⟨h, _⟩ | ⟨_, h⟩
  · exact absurd h (by decide)
  · exact h
def goodT : List TypeId := [35, 9]
set_option maxRecDepth 100000 in
theorem good_rd {H : Type} {enc : TypeId × Value → H} {W : World} {base : Nat} : ∀ t v (d : DataW H) ps, t ∈ goodT → Value.okWide Try.prog W .any base t v → DataW.Trod enc Try.prog W 0 (fun _ => true) true t v d ps → Rows.uptoBulk d ≤ 1048576 →
    ∃ x, Good t x ∧ ∀ A, RelV W (gh0 W) A x v := by
  intro t v d ps ht hv h hb
  simp only [goodT, List.mem_cons, List.mem_nil_iff, or_false] at ht
  rcases ht with rfl | rfl
  · obtain ⟨p, hp, hr⟩ := readProc hv h hb
    exact ⟨_, .inl ⟨rfl, p, hp, rfl⟩, hr⟩
  · obtain ⟨s, hs, hr⟩ := readStr h hb (by
      intro cs e
      subst e
      unfold Value.okWide at hv
      rw [Try.underlying9] at hv
      change Cell.okWide Try.prog W .any base 9 (Value.agg cs) at hv
      unfold Cell.okWide at hv
      rw [Try.underlying9] at hv
      simp only [Cell.ok, Try.underlying9] at hv)
    exact ⟨_, .inr ⟨rfl, s, hs, rfl⟩, hr⟩
set_option maxRecDepth 100000 in
theorem lawG {H : Type} {enc : TypeId × Value → H} {f : FuncId} {fn : Func} {s : ChangeSpec} {W : World} {base : Nat} {args : Array Value} {ds gs : List (DataW H)} {before : List MemPlace}
    (hpar : fn.params.toList.all (goodT.contains ·) = true) (hres : fn.resultTypes = #[4]) (hvars : s.vars = []) (hfn : ∀ ds : List (DataW H), ds.length = fn.params.toList.length → s.fn H ds = { results := [.lit (.bool true)], args := ds })
    (hval : ∀ (j : Nat) t v, fn.params[j]? = some t → args[j]? = some v → Value.okWide Try.prog W .any base t v)
    (hW : DataW.Whole enc Try.prog fn.params.toList s.vars false W args.toList ds gs before) (hk : Rows.uptoSmall H (ds ++ gs) = true)
    (law : ∀ xs, goods Good fn.params.toList xs → acl C f xs A00 = some (.d (.bool true), A00)) :
    Calls Try.prog f args W fun e W' => ∃ v, e = .returned v ∧ s.post enc Try.prog fn false true false false W args v W' := by
  have hT : ∀ t ∈ fn.params.toList, t ∈ goodT := fun t ht => by
    have := List.all_eq_true.1 hpar t ht
    exact List.contains_iff_mem.1 this
  have hsz : Rows.uptoBulkAll (ds ++ gs) ≤ 1048576 := by simpa [Rows.uptoSmall] using hk
  exact lawN (c := C) rfl mixed (fun _ => rfl) laid (fun t ht => by
      have : goodT.all (fun t => Try.prog.readableRec t && decide (t < Try.prog.types.size)) = true := by kernel_rfl
      have := List.all_eq_true.1 this t (hT t ht)
      simpa using this) hT hres Try.underlying4 (by kernel_rfl) hvars hfn hval hW
    (fun d hd => Nat.le_trans (bulk_mem (List.mem_append_left _ hd)) hsz) good_rd law
end Go.Proofs.Ytfoibmfocmjmdaa
