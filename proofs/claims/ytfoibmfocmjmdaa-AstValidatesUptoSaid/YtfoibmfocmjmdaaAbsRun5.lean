/- Rules for operations under a guard: what they lay counts only where the guard holds. -/
import Derived.Test.YtfoibmfocmjmdaaAbsRun4
set_option linter.unusedVariables false
set_option linter.unusedSimpArgs false
set_option linter.all false
set_option linter.deprecated false
namespace Go.Abs
section
variable {c : ACtx} {call : FuncId → AFun} {f nt : Nat} {env e : AEnv} {A A0 A' : AHeap} {rs : List ResultVar} {F : AF} {ks : List KF} {P : Program}
variable {d s t u i j n off id : Nat} {x y z : Operand} {v w : AV} {ty : TypeId} {g b : Bool} {vs : List AV}

/-- a value that counts only where b holds -/
def gv (b : Bool) (v : AV) : AV := if b = true then v else .tuple []
def gs (b : Bool) (s : Slot) : Slot := if b = true then s else .v (.tuple [])
/-- an operation under the guard b -/
def agu (b : Bool) (A : AHeap) (r : Option (Slot × AHeap)) : Option (Slot × AHeap) := if b = true then r else some (.v (.tuple []), A)
@[congr] theorem agu_congr {r r' : Option (Slot × AHeap)} (h : b = g) (h' : r = r') : agu b A r = agu g A r' := by rw [h, h']
@[go_sem high] theorem asel_gu {r : Option (Slot × AHeap)} : asel (some b) r (some (.v (.tuple []), A)) = agu b A r := by rfl
@[go_sem] theorem agu_true {r : Option (Slot × AHeap)} : agu true A r = r := by rfl
@[go_sem] theorem agu_false {r : Option (Slot × AHeap)} : agu false A r = some (.v (.tuple []), A) := by rfl
@[go_sem low] theorem agu_some {s : Slot} : agu b A (some (s, A)) = some (gs b s, A) := by cases b <;> rfl
@[go_sem] theorem gs_v : gs b (.v v) = .v (gv b v) := by cases b <;> rfl
@[go_sem] theorem gv_true : gv true v = v := by rfl
@[go_sem] theorem gv_false : gv false v = .tuple [] := by rfl
@[go_sem] theorem gs_true {s : Slot} : gs true s = s := by rfl
@[go_sem] theorem gs_false {s : Slot} : gs false s = .v (.tuple []) := by rfl

/-- where g holds, b holds -/
def Imp (g b : Bool) : Prop := g = true → b = true
@[go_sem] theorem imp_refl : Imp b b = True := by simp [Imp]
@[go_sem] theorem imp_left {q : Bool} (h : Imp g b) : Imp (g && q) b = True := by
  simp only [Imp, eq_iff_iff, iff_true]
  intro hq
  simp only [Bool.and_eq_true] at hq
  exact h hq.1
@[go_sem low] theorem imp_right {q : Bool} (h : Imp q b) : Imp (g && q) b = True := by
  simp only [Imp, eq_iff_iff, iff_true]
  intro hq
  simp only [Bool.and_eq_true] at hq
  exact h hq.2
theorem Imp.gv (h : Imp g b) (hg : g = true) : gv b v = v := by rw [h hg]; rfl
theorem Imp.gs {s : Slot} (h : Imp g b) (hg : g = true) : gs b s = s := by rw [h hg]; rfl
theorem agu_in {r r' : Option (Slot × AHeap)} (h : g = true → r = r') : agu g A r = agu g A r' := by
  cases g
  · rfl
  · exact h rfl
@[go_sem] theorem gv_gv (h : Imp g b) : gv g (gv b v) = gv g v := by
  cases g
  · rfl
  · rw [h.gv rfl]
@[go_sem] theorem gs_gs {s : Slot} (h : Imp g b) : gs g (gs b s) = gs g s := by
  cases g
  · rfl
  · rw [h.gs rfl]
/-! #### the guard's answer -/
@[go_sem] theorem agt_gv {q w : Bool} : agt (gv b (.d (.bool q))) w = some (b && (q == w)) := by cases b <;> rfl
/-! #### values under the guard -/
@[go_sem] theorem st_bin1 {op : BinOp} {o : Option AV} (h : Imp g b) : agu g A (asv A (abinR P op t (some (gv b v)) o)) = agu g A (asv A (abinR P op t (some v) o)) := agu_in fun hg => by rw [h.gv hg]
@[go_sem] theorem st_bin2 {op : BinOp} {o : Option AV} (h : Imp g b) : agu g A (asv A (abinR P op t o (some (gv b v)))) = agu g A (asv A (abinR P op t o (some v))) := agu_in fun hg => by rw [h.gv hg]
@[go_sem] theorem st_bin3 {op : BinOp} (h : Imp g b) : agu g A (asv A (abin P op t (gv b v) w)) = agu g A (asv A (abin P op t v w)) := agu_in fun hg => by rw [h.gv hg]
@[go_sem] theorem st_bin4 {op : BinOp} (h : Imp g b) : agu g A (asv A (abin P op t w (gv b v))) = agu g A (asv A (abin P op t w v)) := agu_in fun hg => by rw [h.gv hg]
@[go_sem] theorem st_un {op : UnOp} (h : Imp g b) : agu g A (asv A (aun op (gv b v))) = agu g A (asv A (aun op v)) := agu_in fun hg => by rw [h.gv hg]
@[go_sem] theorem st_conv (h : Imp g b) : agu g A (asv A (aconv P s t (gv b v))) = agu g A (asv A (aconv P s t v)) := agu_in fun hg => by rw [h.gv hg]
@[go_sem] theorem st_nil (h : Imp g b) : agu g A (asv A (anilR (gv b v))) = agu g A (asv A (anilR v)) := agu_in fun hg => by rw [h.gv hg]
@[go_sem] theorem st_ext (h : Imp g b) : agu g A (asv A (aextR i (gv b v))) = agu g A (asv A (aextR i v)) := agu_in fun hg => by rw [h.gv hg]
@[go_sem] theorem st_load {agg : Bool} (h : Imp g b) : agu g A (asv A (aload A n agg (gv b v))) = agu g A (asv A (aload A n agg v)) := agu_in fun hg => by rw [h.gv hg]
@[go_sem] theorem st_loadP {agg : Bool} {s : Slot} (h : Imp g b) : agu g A (asv A (aloadK env A n agg x (aplaceS t (some (gs b s))))) = agu g A (asv A (aloadK env A n agg x (aplaceS t (some s)))) := agu_in fun hg => by rw [h.gs hg]
theorem aplaceS_gv : aplaceS t (some (.v v)) = none := rfl
@[go_sem] theorem st_fieldP {s : Slot} (h : Imp g b) : agu g A (afieldK env A n x off (aplaceS t (some (gs b s)))) = agu g A (afieldK env A n x off (aplaceS t (some s))) := agu_in fun hg => by rw [h.gs hg]
@[go_sem] theorem st_fieldV (h : Imp g b) : agu g A (afieldV A off (some (gv b v))) = agu g A (afieldV A off (some v)) := agu_in fun hg => by rw [h.gv hg]
@[go_sem] theorem st_pick1 {o o' : Option AV} (h : Imp g b) : agu g A (asv A (apickR (some (gv b v)) o o')) = agu g A (asv A (apickR (some v) o o')) := agu_in fun hg => by rw [h.gv hg]
@[go_sem] theorem st_pick2 {o o' : Option AV} (h : Imp g b) : agu g A (asv A (apickR o (some (gv b v)) o')) = agu g A (asv A (apickR o (some v) o')) := agu_in fun hg => by rw [h.gv hg]
@[go_sem] theorem st_pick3 {o o' : Option AV} (h : Imp g b) : agu g A (asv A (apickR o o' (some (gv b v)))) = agu g A (asv A (apickR o o' (some v))) := agu_in fun hg => by rw [h.gv hg]
@[go_sem] theorem st_pickA {q : Bool} (h : Imp (g && q) b) : agu g A (asv A (some (if q = true then gv b v else w))) = agu g A (asv A (some (if q = true then v else w))) := agu_in fun hg => by
  cases q
  · rfl
  · rw [h.gv (by rw [hg]; rfl)]
@[go_sem] theorem st_pickB {q : Bool} (h : Imp (g && !q) b) : agu g A (asv A (some (if q = true then w else gv b v))) = agu g A (asv A (some (if q = true then w else v))) := agu_in fun hg => by
  cases q
  · rw [h.gv (by rw [hg]; rfl)]
  · rfl
@[go_sem] theorem st_pickA' {q : Bool} (h : Imp (g && q) b) : agu g A (some (.v (if q = true then gv b v else w), A)) = agu g A (some (.v (if q = true then v else w), A)) := agu_in fun hg => by
  cases q
  · rfl
  · rw [h.gv (by rw [hg]; rfl)]
@[go_sem] theorem st_pickB' {q : Bool} (h : Imp (g && !q) b) : agu g A (some (.v (if q = true then w else gv b v), A)) = agu g A (some (.v (if q = true then w else v), A)) := agu_in fun hg => by
  cases q
  · rw [h.gv (by rw [hg]; rfl)]
  · rfl
@[go_sem] theorem pick_gv1 {q : Bool} (h : Imp q b) : (if q = true then gv b v else w) = if q = true then v else w := by
  cases q
  · rfl
  · rw [if_pos rfl, if_pos rfl, h.gv rfl]
@[go_sem] theorem pick_gv2 {q : Bool} (h : Imp (!q) b) : (if q = true then w else gv b v) = if q = true then w else v := by
  cases q
  · exact h.gv rfl
  · rfl
@[go_sem] theorem st_call1 {h : Option AV} (hi : Imp g b) : agu g A (asv2 (acallK call A h (some (gv b v :: vs)))) = agu g A (asv2 (acallK call A h (some (v :: vs)))) := agu_in fun hg => by rw [hi.gv hg]
@[go_sem] theorem st_call2 {h : Option AV} (hi : Imp g b) : agu g A (asv2 (acallK call A h (some (w :: gv b v :: vs)))) = agu g A (asv2 (acallK call A h (some (w :: v :: vs)))) := agu_in fun hg => by rw [hi.gv hg]
@[go_sem] theorem st_call3 {h : Option AV} {w' : AV} (hi : Imp g b) : agu g A (asv2 (acallK call A h (some (w :: w' :: gv b v :: vs)))) = agu g A (asv2 (acallK call A h (some (w :: w' :: v :: vs)))) := agu_in fun hg => by rw [hi.gv hg]
@[go_sem] theorem st_callf {h : FuncId} (hi : Imp g b) : agu g A (asv2 (call h (gv b v :: vs) A)) = agu g A (asv2 (call h (v :: vs) A)) := agu_in fun hg => by rw [hi.gv hg]
@[go_sem] theorem st_callf2 {h : FuncId} (hi : Imp g b) : agu g A (asv2 (call h (w :: gv b v :: vs) A)) = agu g A (asv2 (call h (w :: v :: vs) A)) := agu_in fun hg => by rw [hi.gv hg]
@[go_sem] theorem st_callf3 {h : FuncId} {w' : AV} (hi : Imp g b) : agu g A (asv2 (call h (w :: w' :: gv b v :: vs) A)) = agu g A (asv2 (call h (w :: w' :: v :: vs) A)) := agu_in fun hg => by rw [hi.gv hg]
@[go_sem] theorem st_callA {h : FuncId} (hi : Imp g b) : agu g A (asv2 (acl c h (gv b v :: vs) A)) = agu g A (asv2 (acl c h (v :: vs) A)) := agu_in fun hg => by rw [hi.gv hg]
@[go_sem] theorem st_callA2 {h : FuncId} (hi : Imp g b) : agu g A (asv2 (acl c h (w :: gv b v :: vs) A)) = agu g A (asv2 (acl c h (w :: v :: vs) A)) := agu_in fun hg => by rw [hi.gv hg]
@[go_sem] theorem st_callA3 {h : FuncId} {w' : AV} (hi : Imp g b) : agu g A (asv2 (acl c h (w :: w' :: gv b v :: vs) A)) = agu g A (asv2 (acl c h (w :: w' :: v :: vs) A)) := agu_in fun hg => by rw [hi.gv hg]
@[go_sem] theorem st_len (hi : Imp g b) : agu g A (asv2 ((alen A n (gv b v)).map fun (m : Nat) => (.d (.int .i64 (m : Int)), A))) = agu g A (asv2 ((alen A n v).map fun (m : Nat) => (.d (.int .i64 (m : Int)), A))) := agu_in fun hg => by rw [hi.gv hg]
@[go_sem] theorem st_built1 {op : Builtin} {ts : Array TypeId} (hi : Imp g b) : agu g A (asv2 (abuiltin P op ts (gv b v :: vs) A)) = agu g A (asv2 (abuiltin P op ts (v :: vs) A)) := agu_in fun hg => by rw [hi.gv hg]
@[go_sem] theorem st_built2 {op : Builtin} {ts : Array TypeId} (hi : Imp g b) : agu g A (asv2 (abuiltin P op ts (w :: gv b v :: vs) A)) = agu g A (asv2 (abuiltin P op ts (w :: v :: vs) A)) := agu_in fun hg => by rw [hi.gv hg]
@[go_sem] theorem st_idx1 {o : Option AV} (hi : Imp g b) : agu g A (asv A (aidxG c t (some (gv b v)) o)) = agu g A (asv A (aidxG c t (some v) o)) := agu_in fun hg => by rw [hi.gv hg]
@[go_sem] theorem st_idx2 {o : Option AV} (hi : Imp g b) : agu g A (asv A (aidxG c t o (some (gv b v)))) = agu g A (asv A (aidxG c t o (some v))) := agu_in fun hg => by rw [hi.gv hg]
@[go_sem] theorem st_ia1 (hi : Imp g b) : agu g A (aindexK c env A t x (some (gv b v))) = agu g A (aindexK c env A t x (some v)) := agu_in fun hg => by rw [hi.gv hg]
@[go_sem] theorem st_ia2 {m : Int} {q : TypeId × Nat} (hi : Imp g b) : agu g A (asv A (aindexR A m (some q) (some (gv b v)))) = agu g A (asv A (aindexR A m (some q) (some v))) := agu_in fun hg => by rw [hi.gv hg]
@[go_sem] theorem st_ia3 {m : Int} (hi : Imp g b) : agu g A (asv A (aindex n A m (gv b v))) = agu g A (asv A (aindex n A m v)) := agu_in fun hg => by rw [hi.gv hg]
@[go_sem] theorem st_fld {q : Option (Nat × Nat × Bool)} (hi : Imp g b) : agu g A (asv A (afldT (some (gv b v)) q)) = agu g A (asv A (afldT (some v) q)) := agu_in fun hg => by rw [hi.gv hg]

/-! ### long regions, written in two lists -/
@[go_sem] theorem c_app_cons {ops : Array Oper} {o : Oper} {l m : List Oper} : cops F ks ops (o :: l ++ m) env A = cops F ks ops (o :: (l ++ m)) env A := by rfl
@[go_sem] theorem c_app_nil {ops : Array Oper} {m : List Oper} : cops F ks ops ([] ++ m) env A = cops F ks ops m env A := by rfl
@[go_sem] theorem cq_app_cons {fb : Option (AV × AHeap)} {ops : Array Oper} {o : Oper} {l m : List Oper} : cq F ks fb ops (o :: l ++ m) env A = cq F ks fb ops (o :: (l ++ m)) env A := by rfl
@[go_sem] theorem cq_app_nil {fb : Option (AV × AHeap)} {ops : Array Oper} {m : List Oper} : cq F ks fb ops ([] ++ m) env A = cq F ks fb ops m env A := by rfl
@[go_sem] theorem ct_app_cons {ops : Array Oper} {ms : List AMark} {o : Oper} {l m : List Oper} : ct F ks ops i (o :: l ++ m) env A ms = ct F ks ops i (o :: (l ++ m)) env A ms := by rfl
@[go_sem] theorem ct_app_nil {ops : Array Oper} {ms : List AMark} {m : List Oper} : ct F ks ops i ([] ++ m) env A ms = ct F ks ops i m env A ms := by rfl
@[go_sem] theorem anth_app_zero {o : Oper} {l m : List Oper} : anth (o :: l ++ m) 0 = o.dst := by rfl
@[go_sem] theorem anth_app_succ {o : Oper} {l m : List Oper} : anth (o :: l ++ m) (n + 1) = anth (l ++ m) n := by rfl
@[go_sem] theorem anth_app_nil {m : List Oper} : anth ([] ++ m) n = anth m n := by rfl
@[go_sem] theorem c_lap_cons {ops : Array Oper} {o : Oper} {l m : List Oper} : cops F ks ops (List.append (o :: l) m) env A = cops F ks ops (o :: (List.append l m)) env A := by rfl
@[go_sem] theorem c_lap_nil {ops : Array Oper} {m : List Oper} : cops F ks ops (List.append [] m) env A = cops F ks ops m env A := by rfl
@[go_sem] theorem cq_lap_cons {fb : Option (AV × AHeap)} {ops : Array Oper} {o : Oper} {l m : List Oper} : cq F ks fb ops (List.append (o :: l) m) env A = cq F ks fb ops (o :: (List.append l m)) env A := by rfl
@[go_sem] theorem cq_lap_nil {fb : Option (AV × AHeap)} {ops : Array Oper} {m : List Oper} : cq F ks fb ops (List.append [] m) env A = cq F ks fb ops m env A := by rfl
@[go_sem] theorem ct_lap_cons {ops : Array Oper} {ms : List AMark} {o : Oper} {l m : List Oper} : ct F ks ops i (List.append (o :: l) m) env A ms = ct F ks ops i (o :: (List.append l m)) env A ms := by rfl
@[go_sem] theorem ct_lap_nil {ops : Array Oper} {ms : List AMark} {m : List Oper} : ct F ks ops i (List.append [] m) env A ms = ct F ks ops i m env A ms := by rfl
@[go_sem] theorem anth_lap_zero {o : Oper} {l m : List Oper} : anth (List.append (o :: l) m) 0 = o.dst := by rfl
@[go_sem] theorem anth_lap_succ {o : Oper} {l m : List Oper} : anth (List.append (o :: l) m) (n + 1) = anth (List.append l m) n := by rfl
@[go_sem] theorem anth_lap_nil {m : List Oper} : anth (List.append [] m) n = anth m n := by rfl
end
end Go.Abs
