/- Renaming a variable does not change the counts: the law. -/
import Derived.Test.YtjmghomnbmbjnaaGreatSeatW
import Derived.Test.YtjmghomnbmbjnaaGreatSeatPA
set_option linter.unusedVariables false
set_option linter.unusedSimpArgs false
set_option linter.all false
set_option linter.deprecated false
set_option linter.all false
namespace Go.Proofs.YtjmghomnbmbjnaaGreat
open Go.Abs
-- CTX D
attribute [local congr] ite_congr
set_option maxRecDepth 10000
section
variable {a b : Bytes}
mutual
theorem ops_ren : ∀ e : E, opsE (renE a b e) = opsE e
  | .mk op n s args => by rw [renE, opsE, opsE, ops_rens args]
theorem ops_rens : ∀ l : List E, opsEs (renEs a b l) = opsEs l
  | [] => rfl
  | x :: l => by rw [renEs, opsEs, opsEs, ops_ren x, ops_rens l]
end
mutual
theorem tE_ren : ∀ e : E, tE (renE a b e) = tE e
  | .mk op n s args => by rw [renE, tE, tE, tEs_ren args]
theorem tEs_ren : ∀ l : List E, tEs (renEs a b l) = tEs l
  | [] => rfl
  | x :: l => by rw [renEs, tEs, tEs, tE_ren x, tEs_ren l]
end
mutual
theorem tS_ren : ∀ x : Stm, tS (renS a b x) = tS x
  | .mk op name max x y body els => by
    rw [renS, tS, tS, tSs_ren body, tSs_ren els]
    unfold ownK
    rw [tE_ren, tE_ren]
theorem tSs_ren : ∀ l : List Stm, tSs (renSs a b l) = tSs l
  | [] => rfl
  | x :: l => by rw [renSs, tSs, tSs, tS_ren x, tSs_ren l]
end
theorem roots_ren : ∀ l : List Vis, opsEs (rootsV (l.map (renV a b))) = opsEs (rootsV l)
  | [] => rfl
  | .s x d :: l => by
    show opsEs (rootsV (l.map (renV a b))) = opsEs (rootsV l)
    exact roots_ren l
  | .e x true :: l => by
    show opsEs (renE a b x :: rootsV (l.map (renV a b))) = opsEs (x :: rootsV l)
    rw [opsEs, opsEs, ops_ren, roots_ren l]
  | .e x false :: l => by
    show opsEs (rootsV (l.map (renV a b))) = opsEs (rootsV l)
    exact roots_ren l
theorem detS_ren (ha : isName a = true) (hb : isName b = true) {p : Pr} (V : Vld p) (ho : occT p b = false) : detS (renP a b p) = detS p := by
  obtain ⟨e1, -⟩ := chkS_ren ha hb V ho
  have V2 := vld_ren ha hb V ho
  unfold detS
  rw [e1]
  unfold fstP
  rw [if_pos ((valS_zero _).2 V2), if_pos ((valS_zero _).2 V)]
  unfold exprsS
  rw [visP_ren, roots_ren]
end
end Go.Proofs.YtjmghomnbmbjnaaGreat
