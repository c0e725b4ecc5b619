/- Nodes, Depth, Exprs and Names: the law. -/
import Derived.Test.YtfflfaedghfmdaaDoorSeatD
import Derived.Test.YtfflfaedghfmdaaDoorSeatC
import Derived.Test.YtfflfaedghfmdaaDoorSeatA
set_option linter.unusedVariables false
set_option linter.unusedSimpArgs false
set_option linter.all false
set_option linter.deprecated false
set_option linter.all false
namespace Go.Proofs.YtfflfaedghfmdaaDoor
open Go.Abs
attribute [local congr] ite_congr
set_option maxRecDepth 10000
mutual
theorem eqE_refl : ∀ x, eqE x x = true
  | .mk op n s args => by simp [eqE, eqEs_refl args]
theorem eqEs_refl : ∀ l, eqEs l l = true
  | [] => rfl
  | x :: l => by simp [eqEs, eqE_refl x, eqEs_refl l]
end
theorem rootsV_ok {P : E → Prop} : ∀ (l : List Vis), (∀ x r, Vis.e x r ∈ l → P x) → ∀ x ∈ rootsV l, P x
  | [], _, x, h => by simp [rootsV] at h
  | .s y d :: l, hl, x, h => rootsV_ok l (fun x r hx => hl x r (List.mem_cons_of_mem _ hx)) x h
  | .e y false :: l, hl, x, h => rootsV_ok l (fun x r hx => hl x r (List.mem_cons_of_mem _ hx)) x h
  | .e y true :: l, hl, x, h => by
    simp only [rootsV, List.mem_cons] at h
    rcases h with rfl | h
    · exact hl x true (List.mem_cons_self ..)
    · exact rootsV_ok l (fun x r hx => hl x r (List.mem_cons_of_mem _ hx)) x h
mutual
theorem visE_okE : ∀ (e : E) (r : Bool), e.Ok → ∀ x q, Vis.e x q ∈ visE e r → x.Ok
  | .mk op n s args, r, h, x, q, hm => by
    simp only [visE, List.mem_cons] at hm
    rcases hm with hm | hm
    · injection hm with h1 h2; subst h1; exact h
    · exact visEs_okE args h.arg x q hm
theorem visEs_okE : ∀ (l : List E), (∀ y ∈ l, y.Ok) → ∀ x q, Vis.e x q ∈ visEs l → x.Ok
  | [], _, x, q, hm => by simp [visEs] at hm
  | y :: l, h, x, q, hm => by
    simp only [visEs, List.mem_append] at hm
    rcases hm with hm | hm
    · exact visE_okE y false (h y (List.mem_cons_self ..)) x q hm
    · exact visEs_okE l (fun z hz => h z (List.mem_cons_of_mem _ hz)) x q hm
end
mutual
theorem visS_okE : ∀ (s : Stm) (d : Int), s.Ok → ∀ x q, Vis.e x q ∈ visS s d → x.Ok
  | .mk op name max a b body els, d, h, x, q, hm => by
    simp only [visS, List.mem_cons, List.mem_append] at hm
    rcases hm with hm | hm | hm | hm | hm
    · cases hm
    · split at hm
      · simp at hm
      · exact visE_okE a true (Stm.Ok.a h) x q hm
    · split at hm
      · simp at hm
      · exact visE_okE b true (Stm.Ok.b h) x q hm
    · exact visSs_okE body _ (Stm.Ok.bodyOk h) x q hm
    · exact visSs_okE els _ (Stm.Ok.elsOk h) x q hm
theorem visSs_okE : ∀ (l : List Stm) (d : Int), (∀ y ∈ l, y.Ok) → ∀ x q, Vis.e x q ∈ visSs l d → x.Ok
  | [], _, _, x, q, hm => by simp [visSs] at hm
  | y :: l, d, h, x, q, hm => by
    simp only [visSs, List.mem_append] at hm
    rcases hm with hm | hm
    · exact visS_okE y d (h y (List.mem_cons_self ..)) x q hm
    · exact visSs_okE l d (fun z hz => h z (List.mem_cons_of_mem _ hz)) x q hm
end
theorem exprsS_ok (p : Pr) (hp : p.Ok) : ∀ x ∈ exprsS p, x.Ok :=
  rootsV_ok _ fun x r hm => visSs_okE p.body 1 hp.body x r (List.mem_of_mem_take hm)
theorem exprsS_len (p : Pr) : (exprsS p).length ≤ 401 := Nat.le_trans (rootsV_len _) (visP_len p)
theorem small40 {p : Pr} {m : Int} (h : smallS p m = true) : p.params.length ≤ 40 := by
  unfold smallS at h
  split at h
  · cases h
  · rename_i h1
    simp at h1
    omega
theorem namesS_len (p : Pr) (h : p.params.length ≤ 40) : (namesS p).length ≤ 441 := by
  unfold namesS paramNames
  have := namesV_len (visP p)
  have := visP_len p
  simp
  omega
end Go.Proofs.YtfflfaedghfmdaaDoor
