/- From the empty heap: a call of the model. -/
import Derived.Test.YtfoibmfocmjmdaaAbsCalls
set_option linter.unusedVariables false
set_option linter.unusedSimpArgs false
set_option linter.all false
set_option linter.deprecated false
namespace Go.Abs
open RowKit

section
variable {c : ACtx} {f : FuncId} {W W' : World}

/-- whatever is there at the start is stable -/
def gh0 (W : World) : Gh := ⟨fun b _ => b < W.heap.size, fun _ => 0, fun _ => undef, fun _ => none⟩

def A00 : AHeap := ⟨[], []⟩

theorem wrel0 (W : World) : WRel W (gh0 W) A00 :=
  ⟨fun id o h => (by simp [A00] at h), fun t b h => (by simp [A00] at h), fun b o h => (by cases h), fun b o h => h, fun b i o h => (by cases h)⟩

theorem grown_of_ev {g' : Gh} {A' : AHeap} (e : Ev W (gh0 W) A00 W' g' A') : Grown W W' := by
  refine ⟨⟨e.rest.os, e.rest.out, fun i hi => ?_⟩, e.rest.fz, e.size⟩
  have h := (e.free i hi rfl).1
  rw [h]
  cases W.heap[i]? with
  | none => rfl
  | some o => cases o with
    | cells c t fz => exact ⟨rfl, rfl, rfl, fun _ _ => rfl⟩
    | map es k => exact .inr ⟨rfl, rfl⟩
    | _ => rfl

theorem call_top (hm : c.P.follows .mixedOrders = true) (hext : ∀ f h, c.ext f = some h → CallOk1 c.P f h) {xs : List AV} {x : AV} {A' : AHeap} (h : acl c f xs A00 = some (x, A')) {vs : List Value} (hr : RelL W (gh0 W) A00 xs vs) :
    Calls c.P f vs.toArray W fun e W' => ∃ v g', e = .returned v ∧ RelV W' g' A' x v ∧ Grown W W' :=
  ((acl_ok hm hext f xs A00 x A' h).2 W (gh0 W) vs (wrel0 W) hr).mono fun _ _ ⟨v, g', h1, h2, _, h4⟩ => ⟨v, g', h1, h2, grown_of_ev h4⟩

theorem call_bool (hm : c.P.follows .mixedOrders = true) (hext : ∀ f h, c.ext f = some h → CallOk1 c.P f h) {xs : List AV} {b : Bool} {A' : AHeap} (h : acl c f xs A00 = some (.d (.bool b), A')) {vs : List Value} (hr : RelL W (gh0 W) A00 xs vs) :
    Calls c.P f vs.toArray W fun e W' => e = .returned (.bool b) ∧ Grown W W' :=
  (call_top hm hext h hr).mono fun _ _ ⟨v, g', h1, h2, h3⟩ => ⟨by rw [h1, h2.dBool], h3⟩

/-- every block that was there stands as it was -/
def Stands (W W' : World) : Prop := ∀ b, b < W.heap.size → W'.heap[b]? = W.heap[b]?

theorem call_law (hm : c.P.follows .mixedOrders = true) (hext : ∀ f h, c.ext f = some h → CallOk1 c.P f h) {xs : List AV} {b : Bool} {A' : AHeap} (h : acl c f xs A00 = some (.d (.bool b), A')) {vs : List Value} (hr : RelL W (gh0 W) A00 xs vs) :
    Calls c.P f vs.toArray W fun e W' => e = .returned (.bool b) ∧ Grown W W' ∧ Stands W W' :=
  ((acl_ok hm hext f xs A00 _ A' h).2 W (gh0 W) vs (wrel0 W) hr).mono fun _ _ ⟨v, g', h1, h2, _, h4⟩ => ⟨by rw [h1, h2.dBool], grown_of_ev h4, fun b hb => (h4.free b hb rfl).1⟩

theorem noext {c : ACtx} (h : ∀ f, c.ext f = none) : ∀ f g, c.ext f = some g → CallOk1 c.P f g := fun f g hg => by rw [h f] at hg; cases hg

end
end Go.Abs
