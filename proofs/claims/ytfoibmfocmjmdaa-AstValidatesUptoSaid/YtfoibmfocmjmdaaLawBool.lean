/- A law answers true and leaves its arguments as they were: from the call to the row's after-condition. -/
import Derived.Test.YtfoibmfocmjmdaaReadT
import Derived.ChangeSame
import Derived.OpenShut
import Derived.WalkKit
import Derived.ProofKit
import Derived.Deep.Frames
set_option linter.unusedVariables false
set_option linter.unusedSimpArgs false
set_option linter.all false
set_option linter.deprecated false
namespace Go.Abs
open Go.ChangeShapes Go.WideShapes Go.WideElems Go.ChangeAt Go.RowKit

section
variable {H : Type} {enc : TypeId × Value → H} {P : Program}

theorem TrodAll_stays (hl : laidOutB P = true) {W W' : World} {sp' : Nat → Bool} : ∀ {ts : List TypeId} {vs : List Value} {ds : List (DataW H)} {ps : List MemPlace}, (∀ t ∈ ts, P.readableRec t = true ∧ t < P.types.size) →
    DataW.TrodAll enc P W 0 (fun _ => true) true ts vs ds ps → (∀ p ∈ ps, W.sameAt W' p) → (∀ p ∈ ps, sp' p.block = true) → DataW.TrodAll enc P W' 0 sp' true ts vs ds ps
  | [], [], [], ps, _, h, _, _ => h
  | t :: ts, v :: vs, d :: ds, ps, hT, ⟨p, q, h1, h2, e⟩, hsame, hs => by
    subst e
    exact ⟨p, q, Trod_stays hl (hT t (List.mem_cons_self ..)).1 (hT t (List.mem_cons_self ..)).2 h1 (fun x hx => hsame x (List.mem_append_left _ hx)) (fun x hx => hs x (List.mem_append_left _ hx)),
      TrodAll_stays hl (fun t ht => hT t (List.mem_cons_of_mem _ ht)) h2 (fun x hx => hsame x (List.mem_append_right _ hx)) (fun x hx => hs x (List.mem_append_right _ hx)), rfl⟩
  | [], _ :: _, _, _, _, h, _, _ => by cases h
  | [], [], _ :: _, _, _, h, _, _ => by cases h
  | _ :: _, [], _, _, _, h, _, _ => by cases h
  | _ :: _, _ :: _, [], _, _, h, _, _ => by cases h

theorem same_of_stands {W W' : World} (h : Stands W W') {p : MemPlace} (hb : p.block < W.heap.size) : W.sameAt W' p := by
  cases p with
  | cell b o =>
    show W'.cell? _ = W.cell? _
    unfold World.cell?
    rw [h b hb]
  | map b => exact h b hb

theorem law_post {f : FuncId} {fn : Func} {s : ChangeSpec} {tb : TypeId} {W : World} {args : Array Value} {ds gs : List (DataW H)} {before : List MemPlace}
    (hl : laidOutB P = true) (hread : ∀ t ∈ fn.params.toList, P.readableRec t = true ∧ t < P.types.size) (hvars : s.vars = []) (hres : fn.resultTypes = #[tb]) (htb : P.underlying tb = some .bool) (hone : P.cellsOf tb = 1)
    (hW : DataW.Whole enc P fn.params.toList s.vars false W args.toList ds gs before)
    (hfn : s.fn H ds = { results := [.lit (.bool true)], args := ds })
    (hrun : Calls P f args W fun e W' => e = .returned (.bool true) ∧ Grown W W' ∧ Stands W W') :
    Calls P f args W fun e W' => ∃ v, e = .returned v ∧ s.post enc P fn false true false false W args v W' := by
  have hlt := hW.lt
  have hW' := hW
  obtain ⟨p, q, hA, hV, rfl, hz, hn⟩ := hW
  rw [hvars] at hV
  obtain ⟨rfl, rfl⟩ := trodVars_none hV
  refine hrun.mono fun e W' ⟨he, hg, hst⟩ => ⟨.bool true, he, ?_⟩
  have hsame : ∀ x ∈ p, W.sameAt W' x := fun x hx => same_of_stands hst (hlt x (by simpa using hx))
  have hr : (Value.bool true).resultList fn.resultTypes.size = [.bool true] := by rw [hres]; rfl
  refine post_of_same (pa := p) (pv := []) hW' (fun _ _ _ => ?_) (fun sp hs => ?_) (fun sp _ => ?_) rfl (World.keptBut_mono (fun _ h => h.elim) hg.1) hg.2.1 ?_
  · rw [hr, hres, List.append_nil, hfn]
    exact trodAll_cons_mk (shut_bool htb _) trodAll_mk0
  · rw [List.append_nil, hfn]
    exact TrodAll_stays hl hread hA hsame (fun x hx => hs x (by simpa using hx))
  · rw [List.append_nil, hfn, hvars]
    rfl
  · rw [hr, hres]
    intro j t r h1 h2
    match j with
    | 0 =>
      simp at h1 h2
      subst h1; subst h2
      exact okWide_bool_mk htb _
    | j + 1 => simp at h1
end
end Go.Abs
