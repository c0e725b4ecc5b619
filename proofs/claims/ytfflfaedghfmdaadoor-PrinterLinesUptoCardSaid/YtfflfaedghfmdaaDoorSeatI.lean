/- The check of a procedure: the checker in the heap, and what it does. -/
import Derived.Test.YtfflfaedghfmdaaDoorSeatE
set_option linter.unusedVariables false
set_option linter.unusedSimpArgs false
set_option linter.all false
set_option linter.deprecated false
set_option linter.all false
namespace Go.Proofs.YtfflfaedghfmdaaDoor
open Go.Abs
attribute [local congr] ite_congr
set_option maxRecDepth 10000
/-- the checker: what is visible, which names are loops', all variables -/
structure CkS where
  vis : NM
  loops : List Bytes
  all : NM
def ckH (B R : List AObj) (b : List ABuf) (s : CkS) : AHeap :=
  ⟨B ++ (.map (mi s.vis) :: .map (mb s.loops) :: .map (mi s.all) :: .cells [.mapr B.length, .mapr (B.length + 1), .mapr (B.length + 2)] :: R), b⟩
section
variable {B R : List AObj} {b : List ABuf} {s s' : CkS}
theorem ck_obj : (ckH B R b s).objs[B.length + 3]? = some (.cells [.mapr B.length, .mapr (B.length + 1), .mapr (B.length + 2)]) := by simp [ckH]
theorem ck_vis : (ckH B R b s).objs[B.length]? = some (.map (mi s.vis)) := by simp [ckH]
theorem ck_loops : (ckH B R b s).objs[B.length + 1]? = some (.map (mb s.loops)) := by simp [ckH]
theorem ck_all : (ckH B R b s).objs[B.length + 2]? = some (.map (mi s.all)) := by simp [ckH]
theorem ck_setv {m : NM} : (⟨(ckH B R b s).objs.set B.length (.map (mi m)), (ckH B R b s).bufs⟩ : AHeap) = ckH B R b { s with vis := m } := by simp [ckH]
theorem ck_setl {m : List Bytes} : (⟨(ckH B R b s).objs.set (B.length + 1) (.map (mb m)), (ckH B R b s).bufs⟩ : AHeap) = ckH B R b { s with loops := m } := by simp [ckH]
theorem ck_seta {m : NM} : (⟨(ckH B R b s).objs.set (B.length + 2) (.map (mi m)), (ckH B R b s).bufs⟩ : AHeap) = ckH B R b { s with all := m } := by simp [ckH]
theorem ck_fin {f : FuncId} (ho : C.own f = false) {v : AV} (h : v.still3 = true) : afinR C f (ckH B R b s) (ckH B R b s') (some v) = some (v.clean3, ckH B R b s') :=
  afinR_len ho h (by simp [ckH]) rfl
end
/-- the operands' types, and the error -/
def opsS (lk : Bytes → Option Int) (x : Stm) : Int × Int × Int :=
  if decide (x.op = 8) = true then (0, 0, 0) else
  if (decide ((ofE lk x.a).2 = 0) && (decide (x.op = 3) || decide (x.op = 6))) = true then ((ofE lk x.a).1, (ofE lk x.b).1, (ofE lk x.b).2) else ((ofE lk x.a).1, 0, (ofE lk x.a).2)
def dclS (s : CkS) (k : Bytes) (t : Int) : CkS := { s with vis := s.vis.put k t, all := s.all.put k t }
def dels (m : NM) : List Stm → NM
  | [] => m
  | x :: l => dels (if decide (x.op = 1) = true then m.del x.name else m) l
def endB (r : Int × CkS) (l : List Stm) : Int × CkS := if decide (r.1 = 0) = true then (0, { r.2 with vis := dels r.2.vis l }) else r
mutual
def stP (s : CkS) : Stm → Int × CkS
  | .mk op name max a b body els =>
    let r := opsS s.vis.get (.mk op name max a b body els)
    if decide (r.2.2 = 0) = true then
      if decide (op = 1) = true then (0, dclS s name r.1)
      else if decide (op = 2) = true then (match s.vis.get name with
        | none => (11, s)
        | some t => if SS.has s.loops name = true then (7, s) else if decide (t = r.1) = true then (0, s) else (10, s))
      else if decide (op = 3) = true then (if (!decide (r.1 = 2) || decide (r.2.1 = 3)) = true then (10, s) else (0, s))
      else if decide (op = 4) = true then (if decide (r.1 = 2) = true then (0, s) else (10, s))
      else if decide (op = 7) = true then (if decide (r.1 = 3) = true then (10, s) else (0, s))
      else if decide (op = 5) = true then (if decide (r.1 = 3) = true then
          (if decide ((endB (blP s body) body).1 = 0) = true then endB (blP (endB (blP s body) body).2 els) els else endB (blP s body) body) else (10, s))
      else if decide (op = 6) = true then (if (!decide (r.1 = 1) || !decide (r.2.1 = 1)) = true then (10, s) else
          ((endB (blP { dclS s name 1 with loops := SS.put s.loops name } body) body).1,
            { (endB (blP { dclS s name 1 with loops := SS.put s.loops name } body) body).2 with vis := (endB (blP { dclS s name 1 with loops := SS.put s.loops name } body) body).2.vis.del name }))
      else (0, s)
    else (r.2.2, s)
def blP (s : CkS) : List Stm → Int × CkS
  | [] => (0, s)
  | x :: l => if decide ((stP s x).1 = 0) = true then blP (stP s x).2 l else stP s x
end
end Go.Proofs.YtfflfaedghfmdaaDoor
set_option linter.all false
namespace Go.Proofs.YtfflfaedghfmdaaDoor
open Go.Abs
attribute [local congr] ite_congr
set_option maxRecDepth 10000
def stAfter (s : CkS) : List Stm → CkS
  | [] => s
  | x :: l => stAfter (stP s x).2 l
theorem stAfter_snoc : ∀ (l : List Stm) (s : CkS) (x : Stm), stAfter s (l ++ [x]) = (stP (stAfter s l) x).2
  | [], s, x => rfl
  | y :: l, s, x => by simp only [List.cons_append, stAfter]; exact stAfter_snoc l _ x
theorem dels_snoc : ∀ (l : List Stm) (m : NM) (x : Stm), dels m (l ++ [x]) = if decide (x.op = 1) = true then (dels m l).del x.name else dels m l
  | [], m, x => rfl
  | y :: l, m, x => by simp only [List.cons_append, dels]; exact dels_snoc l _ x
theorem blP_nil (s : CkS) : blP s [] = (0, s) := by rw [blP]
theorem blP_cons (s : CkS) (x : Stm) (l : List Stm) : blP s (x :: l) = if decide ((stP s x).1 = 0) = true then blP (stP s x).2 l else stP s x := by rw [blP]
end Go.Proofs.YtfflfaedghfmdaaDoor
set_option linter.all false
namespace Go.Proofs.YtfflfaedghfmdaaDoor
open Go.Abs
attribute [local congr] ite_congr
set_option maxRecDepth 10000
theorem stmFit2 {x : Stm} (h : x.Ok) : x.body.length ≤ 4194303 ∧ x.els.length ≤ 4194303 := by
  cases h; exact ⟨by assumption, by assumption⟩
theorem visSs_mem {l : List Stm} {x : Stm} (hx : x ∈ l) (d : Int) : ∀ v ∈ visS x d, v ∈ visSs l d := by
  intro v hv
  induction l with
  | nil => cases hx
  | cons y l ih =>
    simp only [visSs, List.mem_append]
    rcases List.mem_cons.1 hx with rfl | hx
    · exact .inl hv
    · exact .inr (ih hx)
theorem vis_self (x : Stm) (d : Int) : Vis.s x d ∈ visS x d := by
  cases x
  simp [visS]
theorem vis_body {op : Int} {name : Bytes} {max : Int} {a b : E} {body els : List Stm} {d : Int} : ∀ v ∈ visSs body (IntKind.i64.wrap (d + 1)), v ∈ visS (.mk op name max a b body els) d := by
  intro v hv
  simp only [visS, List.mem_cons, List.mem_append]
  exact .inr (.inr (.inr (.inl hv)))
theorem vis_els {op : Int} {name : Bytes} {max : Int} {a b : E} {body els : List Stm} {d : Int} : ∀ v ∈ visSs els (IntKind.i64.wrap (d + 1)), v ∈ visS (.mk op name max a b body els) d := by
  intro v hv
  simp only [visS, List.mem_cons, List.mem_append]
  exact .inr (.inr (.inr (.inr hv)))
end Go.Proofs.YtfflfaedghfmdaaDoor
