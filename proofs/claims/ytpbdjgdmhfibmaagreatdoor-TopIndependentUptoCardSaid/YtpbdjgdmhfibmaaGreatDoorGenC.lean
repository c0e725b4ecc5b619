/- Rules by which the abstract machine is run symbolically ('simp only [go_sem, ..]'). -/
import Derived.Attr
import Derived.Laws.RangeAny
import Derived.Lib.ItoaNum
import Derived.Test.YtpbdjgdmhfibmaaGreatDoorGenA
import Derived.Test.YtpbdjgdmhfibmaaGreatDoorGenB
import Derived.Test.YtpbdjgdmhfibmaaGreatDoorGenD
set_option linter.all false
namespace Go.Abs
section
variable {c : ACtx} {call : FuncId → AFun} {f nt : Nat} {env e : AEnv} {A A0 : AHeap} {rs : List ResultVar}
inductive KF where
 | seq (y : Code)
 | block (id : Nat)
 | loop (x : Code)
noncomputable def axK (c : ACtx) (f nt : Nat) (y : Code) (x : ARes) : ARes := x.bind fun r => match r.1 with
  | .normal => ax c f nt y r.2.1 r.2.2
  | _ => some r
def ablockK (id : Nat) (x : ARes) : ARes := x.map fun r => match r.1 with
    | .exit j => if j = id then (.normal, r.2) else r
    | _ => r
noncomputable def aloopK (c : ACtx) (f nt : Nat) (x : Code) (r : ARes) : ARes := r.bind fun r => match r.1 with
  | .normal => ax c f nt (.loop x) r.2.1 r.2.2
  | _ => some r
noncomputable def aplug (c : ACtx) (f nt : Nat) : List KF → ARes → ARes
 | [], r => r
 | .seq y :: ks, r => aplug c f nt ks (axK c f nt y r)
 | .block id :: ks, r => aplug c f nt ks (ablockK id r)
 | .loop x :: ks, r => aplug c f nt ks (aloopK c f nt x r)
noncomputable def afinR (c : ACtx) (f : FuncId) (A0 A : AHeap) (x : Option AV) : Option (AV × AHeap) := x.map fun v => afinish c f A0 v A
noncomputable def afinK (c : ACtx) (f : FuncId) (rs : List ResultVar) (A0 : AHeap) (x : ARes) : Option (AV × AHeap) := x.bind fun x => match x.1 with
   | .exit _ => none
   | _ => afinR c f A0 x.2.2 (aresults c x.2.1 x.2.2 rs)
structure AF where
 c : ACtx
 f : FuncId
 nt : Nat
 rs : List ResultVar
 A0 : AHeap
noncomputable def cek (F : AF) (ks : List KF) (code : Code) (env : AEnv) (A : AHeap) : Option (AV × AHeap) := afinK F.c F.f F.rs F.A0 (aplug F.c F.f F.nt ks (ax F.c F.f F.nt code env A))
noncomputable def ckr (F : AF) (env : AEnv) (A : AHeap) : Option (AV × AHeap) := afinR F.c F.f F.A0 A (aresults F.c env A F.rs)
noncomputable def ckn (F : AF) (ks : List KF) (env : AEnv) (A : AHeap) : Option (AV × AHeap) := afinK F.c F.f F.rs F.A0 (aplug F.c F.f F.nt ks (some (.normal, env, A)))
noncomputable def ckx (F : AF) (id : Nat) (ks : List KF) (env : AEnv) (A : AHeap) : Option (AV × AHeap) := afinK F.c F.f F.rs F.A0 (aplug F.c F.f F.nt ks (some (.exit id, env, A)))
variable {F : AF} {ks : List KF} {x y : Code}
@[congr] theorem cek_congr {e' : AEnv} {A' : AHeap} (h : env = e') (h' : A = A') : cek F ks x env A = cek F ks x e' A' := by rw [h, h']
@[congr] theorem ckn_congr {e' : AEnv} {A' : AHeap} (h : env = e') (h' : A = A') : ckn F ks env A = ckn F ks e' A' := by rw [h, h']
@[go_sem] theorem k_seq : cek F ks (.seq x y) env A = cek F (.seq y :: ks) x env A := by
  unfold cek
  rw [ax_seq]
  rfl
@[go_sem] theorem k_block {id : Nat} : cek F ks (.block id x) env A = cek F (.block id :: ks) x env A := by
  unfold cek
  rw [ax_block]
  rfl
theorem k_loop : cek F ks (.loop x) env A = cek F (.loop x :: ks) x (atrim F.c F.f (firstRegion x) env) A := by
 unfold cek
 rw [ax_loop]
 rfl
@[go_sem] theorem k_skip : cek F ks .skip env A = ckn F ks env A := by unfold cek; rw [ax_skip]; rfl
@[go_sem] theorem k_exit {id : Nat} : cek F ks (.exit id) env A = ckx F id ks env A := by unfold cek; rw [ax_exit]; rfl
theorem aplug_ret : ∀ (ks : List KF), aplug c f nt ks (some (.ret, env, A)) = some (.ret, env, A)
 | [] => rfl
 | .seq _ :: ks => aplug_ret ks
 | .block _ :: ks => aplug_ret ks
 | .loop _ :: ks => aplug_ret ks
theorem aplug_none : ∀ (ks : List KF), aplug c f nt ks none = none
 | [] => rfl
 | .seq _ :: ks => aplug_none ks
 | .block _ :: ks => aplug_none ks
 | .loop _ :: ks => aplug_none ks
@[go_sem] theorem k_ret : cek F ks .ret env A = ckr F env A := by unfold cek; rw [ax_ret, aplug_ret]; rfl
@[go_sem] theorem n_seq : ckn F (.seq y :: ks) env A = cek F ks y env A := by rfl
@[go_sem] theorem n_block {id : Nat} : ckn F (.block id :: ks) env A = ckn F ks env A := by rfl
@[go_sem] theorem n_loop : ckn F (.loop x :: ks) env A = cek F ks (.loop x) env A := by rfl
@[go_sem] theorem n_nil : ckn F [] env A = ckr F env A := by rfl
@[go_sem] theorem x_seq {id : Nat} : ckx F id (.seq y :: ks) env A = ckx F id ks env A := by rfl
@[go_sem] theorem x_loop {id : Nat} : ckx F id (.loop x :: ks) env A = ckx F id ks env A := by rfl
@[go_sem] theorem x_block {id : Nat} : ckx F id (.block id :: ks) env A = ckn F ks env A := by simp [ckx, ckn, aplug, ablockK]
def acondK {α : Type} (x : Option AV) (t e : Option α) : Option α := match x with
 | some (.d (.bool b)) => if b = true then t else e
 | _ => none
@[congr] theorem acondK_congr {α : Type} {x x' : Option AV} {t e : Option α} (h : x = x') : acondK x t e = acondK x' t e := by rw [h]
@[go_sem] theorem acondK_true {α : Type} {t e : Option α} : acondK (some (.d (.bool true))) t e = t := by rfl
theorem acondK_bool {α : Type} {b : Bool} {t e : Option α} : acondK (some (.d (.bool b))) t e = if b = true then t else e := by rfl
theorem acB_merge {p : Prop} [Decidable p] {v w : AV} : (if p then some (v, A) else some (w, A)) = some (if p then v else w, A) := by split <;> rfl
theorem way {α : Type} {b : Bool} {t e r : Option α} (ht : b = true → t = r) (hf : b = false → e = r) : (if b = true then t else e) = r := by
 cases b
 ·exact hf rfl
 ·exact ht rfl
theorem ax_cond_eq {v : Operand} : ax c f nt (.cond v x y) env A = acondK (aeval env v) (ax c f nt x env A) (ax c f nt y env A) := by
 by_cases h : ∃ b, aeval env v = some (.d (.bool b))
 ·obtain ⟨b, hb⟩ := h
  rw [ax_cond hb, hb]
  rfl
 ·have h2 : acondK (aeval env v) (ax c f nt x env A) (ax c f nt y env A) = none := by
   unfold acondK
   split
   ·rename_i b hb; exact absurd ⟨b, hb⟩ h
   ·rfl
  rw [h2]
  cases hx : ax c f nt (.cond v x y) env A with
  | none => rfl
  | some r =>
    obtain ⟨n, hn⟩ := ax_some.1 hx
    simp only [acode] at hn
    split at hn
    ·rename_i b hb; exact absurd ⟨b, hb⟩ h
    ·cases hn
@[go_sem] theorem k_cond {v : Operand} : cek F ks (.cond v x y) env A = acondK (aeval env v) (cek F ks x env A) (cek F ks y env A) := by
  unfold cek
  rw [ax_cond_eq]
  unfold acondK
  split
  ·split <;> rfl
  ·rw [aplug_none]; rfl
@[go_sem] theorem firstRegion_region {id : Nat} {ops : Array Oper} {d : Bool} : firstRegion (.region id ops d) = some id := by rfl
@[go_sem] theorem firstRegion_seq {x y : Code} : firstRegion (.seq x y) = firstRegion x := by rfl
def akeepK (o : Option (List Nat)) (env : AEnv) : AEnv := match o with
 | some ts => akeep env ts
 | none => env
@[go_sem] theorem r_trim {r : Nat} : atrim c f (some r) env = akeepK (c.live f r) env := by rfl
@[go_sem] theorem akeepK_some {ts : List Nat} : akeepK (some ts) env = akeep env ts := by rfl
def akeepC (t : Nat) (x : Option Slot) (l : AEnv) : AEnv := match x with
 | some x => (t, x) :: l
 | none => l
@[go_sem] theorem akeep_nil : akeep env [] = [] := by rfl
@[go_sem] theorem akeep_cons {t : Nat} {ts : List Nat} : akeep env (t :: ts) = akeepC t (alook env t) (akeep env ts) := by rfl
@[go_sem] theorem akeepC_some {t : Nat} {x : Slot} {l : AEnv} : akeepC t (some x) l = (t, x) :: l := by rfl
@[go_sem] theorem alook_eq {t : Nat} {x : Slot} : alook ((t, x) :: env) t = some x := by simp [alook]
@[go_sem low] theorem alook_ne {s t : Nat} {x : Slot} (h : ¬ s = t) : alook ((s, x) :: env) t = alook env t := by simp [alook, h]
noncomputable def cokr (F : AF) (ks : List KF) (x : Option (AEnv × AHeap)) : Option (AV × AHeap) := x.bind fun r => ckn F ks r.1 r.2
noncomputable def cops (F : AF) (ks : List KF) (ops : Array Oper) (rest : List Oper) (env : AEnv) (A : AHeap) : Option (AV × AHeap) :=
 cokr F ks (aops F.c (acl F.c) F.f F.nt ops rest env A)
@[congr] theorem cops_congr {ops : Array Oper} {rest : List Oper} {e' : AEnv} {A' : AHeap} (h : env = e') (h' : A = A') : cops F ks ops rest env A = cops F ks ops rest e' A' := by rw [h, h']
noncomputable def cput (F : AF) (ks : List KF) (ops : Array Oper) (rest : List Oper) (x : Option (AEnv × AHeap)) : Option (AV × AHeap) :=
 x.bind fun r => cops F ks ops rest r.1 r.2
@[congr] theorem cput_congr {ops : Array Oper} {rest : List Oper} {z z' : Option (AEnv × AHeap)} (h : z = z') : cput F ks ops rest z = cput F ks ops rest z' := by rw [h]
theorem cek_region {id : Nat} {ops : Array Oper} {d : Bool} : cek F ks (.region id ops d) env A = cokr F ks (aregion F.c (acl F.c) F.f F.nt ops d (atrim F.c F.f (some id) env) A) := by
 unfold cek cokr ckn
 rw [ax_region]
 cases aregion F.c (acl F.c) F.f F.nt ops d (atrim F.c F.f (some id) env) A with
 | none => rw [Option.map_none, aplug_none]; rfl
 | some r => rfl
@[go_sem] theorem k_region {id : Nat} {l : List Oper} : cek F ks (.region id l.toArray false) env A = cops F ks l.toArray l (atrim F.c F.f (some id) env) A := by
  rw [cek_region]; rfl
@[go_sem] theorem c_nil {ops : Array Oper} : cops F ks ops [] env A = ckn F ks env A := by rfl
@[go_sem low] theorem c_cons {ops : Array Oper} {o : Oper} {rest : List Oper} : cops F ks ops (o :: rest) env A = cput F ks ops rest (astep F.c (acl F.c) F.f F.nt ops o env A) := by
  unfold cops cput cokr cops cokr
  simp only [aops]
  cases astep F.c (acl F.c) F.f F.nt ops o env A <;> rfl
@[go_sem] theorem cput_some {ops : Array Oper} {rest : List Oper} : cput F ks ops rest (some (e, A)) = cops F ks ops rest e A := by rfl
def isSlot : Op → Bool
 | .alloc _ | .box _ _ | .store _ _ _ => false
 | _ => true
def aputS (nt : Nat) (dst : Option Tmp) (env : AEnv) (x : Option (Slot × AHeap)) : Option (AEnv × AHeap) := x.bind fun r => (aput nt dst r.1 env).map (·, r.2)
@[go_sem] theorem aputS_some {d : Nat} {s : Slot} (h : d < nt) : aputS nt (some d) env (some (s, A)) = some ((d, s) :: env, A) := by
  simp [aputS, aput, alay, h]
@[congr] theorem aputS_congr {dst : Option Tmp} {z z' : Option (Slot × AHeap)} (h : z = z') : aputS nt dst env z = aputS nt dst env z' := by rw [h]
@[go_sem] theorem aputS_nodst {s : Slot} : aputS nt none env (some (s, A)) = some (env, A) := by rfl
@[go_sem] theorem aputS_none {dst : Option Tmp} : aputS nt dst env none = none := by rfl
theorem aop_slot {o : Oper} (h : isSlot o.op = true) : aop c call f nt o env A = aputS nt o.dst env (aslot c call env A o.op) := by
 have he : aeff c call f o env A = (aslot c call env A o.op).map fun r => (o.dst.map (·, r.1), r.2) := by
  cases hop : o.op <;> rw [hop] at h <;> first | (simp [isSlot] at h; done) | simp only [aeff, hop]
 unfold aop aputS aput
 rw [he]
 cases aslot c call env A o.op <;> rfl
def asel {α : Type} (g : Option Bool) (x y : Option α) : Option α := match g with
 | some b => if b = true then x else y
 | none => none
@[congr] theorem asel_congr {α : Type} {g g' : Option Bool} {x y : Option α} (h : g = g') : asel g x y = asel g' x y := by rw [h]
@[go_sem] theorem asel_true {α : Type} {x y : Option α} : asel (some true) x y = x := by rfl
@[go_sem] theorem asel_false {α : Type} {x y : Option α} : asel (some false) x y = y := by rfl
@[go_sem] theorem asel_none {α : Type} {x y : Option α} : asel none x y = none := by rfl
def aput0 (nt : Nat) (dst : Option Tmp) (env : AEnv) (A : AHeap) : Option (AEnv × AHeap) := (aput nt dst (.v (.tuple [])) env).map (·, A)
@[go_sem] theorem aput0_some {d : Nat} (h : d < nt) : aput0 nt (some d) env A = some ((d, .v (.tuple [])) :: env, A) := by
  simp [aput0, aput, alay, h]
theorem r_step {ops : Array Oper} {o : Oper} : astep c call f nt ops o env A = asel (aguard ops env o) (aop c call f nt o env A) (aput0 nt o.dst env A) := by
 unfold astep asel
 cases aguard ops env o with
 | none => rfl
 | some b => cases b <;> rfl
@[go_sem low] theorem r_step0 {ops : Array Oper} {dst : Option Tmp} {op : Op} {type : TypeId} {pos : String} {after : Array Edge} :
  astep c call f nt ops ⟨dst, op, type, pos, after, none⟩ env A = aop c call f nt ⟨dst, op, type, pos, after, none⟩ env A := by rfl
@[go_sem] theorem r_step0s {ops : Array Oper} {dst : Option Tmp} {op : Op} {type : TypeId} {pos : String} {after : Array Edge} (h : isSlot op = true) :
  astep c call f nt ops ⟨dst, op, type, pos, after, none⟩ env A = aputS nt dst env (aslot c call env A op) := by rw [r_step0, aop_slot h]
def aguardS (x : Option Slot) (w : Bool) : Option Bool := match x with
 | some (.v x) => agt x w
 | _ => none
def anth : List Oper → Nat → Option Nat
 | [], _ => none
 | o :: _, 0 => o.dst
 | _ :: l, n + 1 => anth l n
theorem anth_eq : ∀ (l : List Oper) (j : Nat), anth l j = (l[j]?).bind (·.dst)
 | [], _ => rfl
 | _ :: _, 0 => rfl
 | _ :: l, n + 1 => by simpa [anth] using anth_eq l n
@[go_sem] theorem anth_zero {l : List Oper} {d : Option Nat} {op : Op} {type : TypeId} {pos : String} {after : Array Edge} {g : Option (Nat × Bool)} : anth (⟨d, op, type, pos, after, g⟩ :: l) 0 = d := by rfl
@[go_sem] theorem anth_succ {l : List Oper} {o : Oper} {n : Nat} : anth (o :: l) (n + 1) = anth l n := by rfl
def aguardK (env : AEnv) (w : Bool) (o : Option Nat) : Option Bool := match o with
 | some t => aguardS (alook env t) w
 | none => none
@[go_sem] theorem aguardK_some {w : Bool} {t : Nat} : aguardK env w (some t) = aguardS (alook env t) w := by rfl
@[go_sem] theorem aguardS_some {x : AV} {w : Bool} : aguardS (some (.v x)) w = agt x w := by rfl
theorem aguard_some {ops : List Oper} {dst : Option Tmp} {op : Op} {type : TypeId} {pos : String} {after : Array Edge} {j : Nat} {w : Bool} :
  aguard ops.toArray env ⟨dst, op, type, pos, after, some (j, w)⟩ = aguardK env w (anth ops j) := by
 rw [anth_eq]
 simp only [aguard, aguardK, aguardS, List.getElem?_toArray]
 rfl
@[go_sem low] theorem r_step1 {ops : List Oper} {dst : Option Tmp} {op : Op} {type : TypeId} {pos : String} {after : Array Edge} {j : Nat} {w : Bool} :
  astep c call f nt ops.toArray ⟨dst, op, type, pos, after, some (j, w)⟩ env A = asel (aguardK env w (anth ops j)) (aop c call f nt ⟨dst, op, type, pos, after, some (j, w)⟩ env A) (aput0 nt dst env A) := by
  rw [r_step, aguard_some]
@[go_sem] theorem r_step1s {ops : List Oper} {dst : Option Tmp} {op : Op} {type : TypeId} {pos : String} {after : Array Edge} {j : Nat} {w : Bool} (h : isSlot op = true) :
  astep c call f nt ops.toArray ⟨dst, op, type, pos, after, some (j, w)⟩ env A = aputS nt dst env (asel (aguardK env w (anth ops j)) (aslot c call env A op) (some (.v (.tuple []), A))) := by
  rw [r_step1, aop_slot h]
  cases aguardK env w (anth ops j) with
  | none => rfl
  | some b => cases b <;> rfl
@[go_sem] theorem agt_bool {b w : Bool} : agt (.d (.bool b)) w = some (b == w) := by rfl
@[go_sem] theorem agt_skip {w : Bool} : agt (.tuple []) w = some false := by rfl
@[go_sem] theorem amerge_int {p : Prop} [Decidable p] {k : IntKind} {x y : Int} : (if p then AV.d (.int k x) else AV.d (.int k y)) = AV.d (.int k (if p then x else y)) := by split <;> rfl
@[go_sem] theorem amerge_same {α : Type} {p : Prop} [Decidable p] {x : α} : (if p then x else x) = x := by split <;> rfl
@[go_sem] theorem amerge_bool {p : Prop} [Decidable p] {x y : Bool} : (if p then AV.d (.bool x) else AV.d (.bool y)) = AV.d (.bool (if p then x else y)) := by split <;> rfl
section isslot
variable {t s u : TypeId} {x y z : Operand} {i : Nat}
@[go_sem] theorem i_move : isSlot (.move x) = true := by simp only [isSlot]
@[go_sem] theorem i_assign : isSlot (.assign x) = true := by simp only [isSlot]
@[go_sem] theorem i_pick : isSlot (.pick x y z) = true := by simp only [isSlot]
@[go_sem] theorem i_build {ps} : isSlot (.build t ps) = true := by simp only [isSlot]
@[go_sem] theorem i_buildSlice {n ps} : isSlot (.buildSlice t n ps) = true := by simp only [isSlot]
@[go_sem] theorem i_load : isSlot (.load t x) = true := by simp only [isSlot]
@[go_sem] theorem i_nilCheck : isSlot (.nilCheck x) = true := by simp only [isSlot]
@[go_sem] theorem i_binOp {op} : isSlot (.binOp op t x y u) = true := by simp only [isSlot]
@[go_sem] theorem i_unOp {op} : isSlot (.unOp op t x) = true := by simp only [isSlot]
@[go_sem] theorem i_convert : isSlot (.convert s t x) = true := by simp only [isSlot]
@[go_sem] theorem i_makeFunc {fn a b} : isSlot (.makeFunc fn a b) = true := by simp only [isSlot]
@[go_sem] theorem i_makeMap {r} : isSlot (.makeMap t r) = true := by simp only [isSlot]
@[go_sem] theorem i_slice {a b d} : isSlot (.slice t x a b d) = true := by simp only [isSlot]
@[go_sem] theorem i_fieldAddr : isSlot (.fieldAddr t x i) = true := by simp only [isSlot]
@[go_sem] theorem i_indexAddr : isSlot (.indexAddr t x y) = true := by simp only [isSlot]
@[go_sem] theorem i_index : isSlot (.index t x y) = true := by simp only [isSlot]
@[go_sem] theorem i_lookup {b} : isSlot (.lookup t x y b) = true := by simp only [isSlot]
@[go_sem] theorem i_mapUpdate : isSlot (.mapUpdate t x y z) = true := by simp only [isSlot]
@[go_sem] theorem i_extract : isSlot (.extract x i) = true := by simp only [isSlot]
@[go_sem] theorem i_call {cl} : isSlot (.call cl) = true := by simp only [isSlot]
end isslot
section ops
variable {s t u : TypeId} {x y z : Operand} {i : Nat} {v w : AV}
def asv (A : AHeap) (x : Option AV) : Option (Slot × AHeap) := x.map fun v => (.v v, A)
@[go_sem] theorem asv_some : asv A (some v) = some (.v v, A) := by rfl
@[go_sem] theorem o_move : aslot c call env A (.move x) = asv A (aeval env x) := by simp only [aslot, aval1, asv]; cases aeval env x <;> rfl
@[go_sem] theorem o_assign : aslot c call env A (.assign x) = asv A (aeval env x) := by simp only [aslot, aval1, asv]; cases aeval env x <;> rfl
def apickR (x a b : Option AV) : Option AV := match x, a, b with
    | some (.d (.bool t)), some va, some vb => some (if t then va else vb)
    | _, _, _ => none
@[go_sem] theorem apickR_some {t : Bool} {va vb : AV} : apickR (some (.d (.bool t))) (some va) (some vb) = some (if t = true then va else vb) := by rfl
@[go_sem] theorem o_pick : aslot c call env A (.pick x y z) = asv A (apickR (aeval env x) (aeval env y) (aeval env z)) := by
  simp only [aslot, aval1, asv, apickR]
  generalize aeval env x = a1
  generalize aeval env y = a2
  generalize aeval env z = a3
  cases a1 with
  | none => rfl
  | some v =>
    cases v <;> try rfl
    rename_i d
    cases d <;> try rfl
    cases a2 <;> cases a3 <;> rfl
def abinR (P : Program) (op : BinOp) (t : TypeId) (x y : Option AV) : Option AV := match x, y with
    | some a, some b => abin P op t a b
    | _, _ => none
@[go_sem] theorem abinR_some {P : Program} {op : BinOp} {a b : AV} : abinR P op t (some a) (some b) = abin P op t a b := by rfl
@[go_sem] theorem o_bin {op : BinOp} : aslot c call env A (.binOp op t x y u) = asv A (abinR c.P op t (aeval env x) (aeval env y)) := by
  simp only [aslot, aval1, asv, abinR]
  cases aeval env x <;> cases aeval env y <;> try rfl
  simp only [Option.map_map]; rfl
def abindV (f : AV → Option AV) (x : Option AV) : Option AV := x.bind f
@[go_sem] theorem abindV_some {f : AV → Option AV} : abindV f (some v) = f v := by rfl
@[go_sem] theorem o_un {op : UnOp} : aslot c call env A (.unOp op t x) = asv A (abindV (aun op) (aeval env x)) := by
  simp only [aslot, aval1, asv, abindV]; cases aeval env x <;> try rfl
  simp only [Option.bind_some, Option.map_map]; rfl
@[go_sem] theorem u_not {b : Bool} : aun .not (.d (.bool b)) = some (.d (.bool (!b))) := by rfl
@[go_sem] theorem u_neg {k : IntKind} {n : Int} : aun .neg (.d (.int k n)) = some (.d (.int k (k.wrap (0 - n)))) := by rfl
@[go_sem] theorem o_conv : aslot c call env A (.convert s t x) = asv A (abindV (aconv c.P s t) (aeval env x)) := by
  simp only [aslot, aval1, asv, abindV]; cases aeval env x <;> try rfl
  simp only [Option.bind_some, Option.map_map]; rfl
def anilR (v : AV) : Option AV := match v with
 | .ptr id off => some (.ptr id off)
 | .sptr cs => some (.sptr cs)
 | .eptr a b i o => some (.eptr a b i o)
 | _ => none
@[go_sem] theorem anilR_ptr {id off : Nat} : anilR (.ptr id off) = some (.ptr id off) := by rfl
@[go_sem] theorem o_nilCheck : aslot c call env A (.nilCheck x) = asv A (abindV anilR (aeval env x)) := by
  simp only [aslot, aval1, asv, abindV]
  cases h : aeval env x with
  | none => rfl
  | some a => cases a <;> rfl
def aextR (i : Nat) (v : AV) : Option AV := match v with
 | .tuple vs => vs[i]?
 | _ => none
@[go_sem] theorem aextR_tuple {vs : List AV} : aextR i (.tuple vs) = vs[i]? := by rfl
@[go_sem] theorem o_extract : aslot c call env A (.extract x i) = asv A (abindV (aextR i) (aeval env x)) := by
  simp only [aslot, aval1, asv, abindV]
  cases h : aeval env x with
  | none => rfl
  | some a =>
    cases a <;> try rfl
    rename_i vs
    simp only [aextR, Option.bind_some]
    cases vs[i]? <;> rfl
def aplaceS (t : Nat) (x : Option Slot) : Option (Nat × Nat) := match x with
 | some (.box _) => some (t, 0)
 | some (.place s off) => some (s, off)
 | _ => none
@[go_sem] theorem p_tmp {t : Nat} : aplace env (.tmp t) = aplaceS t (alook env t) := by rfl
@[go_sem] theorem aplaceS_box {t : Nat} {cs : List AV} : aplaceS t (some (.box cs)) = some (t, 0) := by rfl
@[go_sem] theorem aplaceS_place {t s off : Nat} : aplaceS t (some (.place s off)) = some (s, off) := by rfl
@[go_sem] theorem aplaceS_v {t : Nat} : aplaceS t (some (.v v)) = none := by rfl
def aboxS (x : Option Slot) : Option (List AV) := match x with
 | some (.box cs) => some cs
 | _ => none
@[go_sem] theorem p_box {t : Nat} : abox env t = aboxS (alook env t) := by rfl
@[go_sem] theorem aboxS_box {cs : List AV} : aboxS (some (.box cs)) = some cs := by rfl
def apartS (off n : Nat) (agg : Bool) (x : Option (List AV)) : Option AV := x.bind fun cs => apart cs off n agg
@[go_sem] theorem apartS_some {cs : List AV} {off n : Nat} {agg : Bool} : apartS off n agg (some cs) = apart cs off n agg := by rfl
@[go_sem] theorem apart_true {cs : List AV} {off n : Nat} (h : off + n ≤ cs.length) : apart cs off n true = some (.agg ((cs.drop off).take n)) := by simp [apart, h]
@[go_sem] theorem apart_false {cs : List AV} {off n : Nat} : apart cs off n false = cs[off]? := by rfl
def aloadK (env : AEnv) (A : AHeap) (n : Nat) (agg : Bool) (x : Operand) (p : Option (Nat × Nat)) : Option AV := match p with
 | some (s, off) => apartS off n agg (abox env s)
 | none => abindV (aload A n agg) (aeval env x)
@[go_sem] theorem aloadK_some {n : Nat} {agg : Bool} {s off : Nat} : aloadK env A n agg x (some (s, off)) = apartS off n agg (abox env s) := by rfl
@[go_sem] theorem aloadK_none {n : Nat} {agg : Bool} : aloadK env A n agg x none = abindV (aload A n agg) (aeval env x) := by rfl
def aloadT (env : AEnv) (A : AHeap) (x : Operand) (k : Option (Nat × Bool)) : Option AV := match k with
 | some (n, agg) => aloadK env A n agg x (aplace env x)
 | none => none
@[go_sem] theorem aloadT_some {n : Nat} {agg : Bool} : aloadT env A x (some (n, agg)) = aloadK env A n agg x (aplace env x) := by rfl
@[go_sem] theorem o_load : aslot c call env A (.load t x) = asv A (aloadT env A x (kindT c.P t)) := by
  simp only [aslot, aloadT, aloadK, asv, apartS, abindV]
  cases kindT c.P t with
  | none => rfl
  | some k =>
    simp only
    cases aplace env x with
    | none =>
      cases aeval env x with
      | none => rfl
      | some a => simp
    | some p =>
      simp only
      cases abox env p.1 with
      | none => rfl
      | some cs => simp
def acellsAt (off n : Nat) (agg : Bool) (o : Option AObj) : Option AV := match o with
    | some (.cells cs) => apart cs off n agg
    | some (.tcells _ cs) => apart cs off n agg
    | _ => none
@[go_sem] theorem acellsAt_some {off n : Nat} {agg : Bool} {cs : List AV} : acellsAt off n agg (some (.cells cs)) = apart cs off n agg := by rfl
@[go_sem] theorem l_ptr {id off n : Nat} {agg : Bool} : aload A n agg (.ptr id off) = acellsAt off n agg A.objs[id]? := by rfl
@[go_sem] theorem l_sptr {n : Nat} {agg : Bool} {ds : List Dat} : aload A n agg (.sptr ds) = apart (ds.map .d) 0 n agg := by rfl
def afieldK (env : AEnv) (A : AHeap) (n : Nat) (x : Operand) (off : Nat) (p : Option (Nat × Nat)) : Option (Slot × AHeap) := if n = 0 then none else match p with
 | some (s, o') => some (.place s (o' + off), A)
 | none => match aeval env x with
    | some (.ptr id o') => some (.v (.ptr id (o' + off)), A)
    | some (.sptr ds) => some (.v (.sptr (ds.drop off)), A)
    | some (.eptr tok len j o') => some (.v (.eptr tok len j (o' + off)), A)
    | _ => none
def afieldT (env : AEnv) (A : AHeap) (x : Operand) (q : Option (Nat × Nat × Bool)) : Option (Slot × AHeap) := match q with
 | some (off, n, _) => afieldK env A n x off (aplace env x)
 | none => none
@[go_sem] theorem afieldT_some {off n : Nat} {agg : Bool} : afieldT env A x (some (off, n, agg)) = afieldK env A n x off (aplace env x) := by rfl
@[go_sem] theorem afieldK_some {n s o' off : Nat} : afieldK env A (n + 1) x off (some (s, o')) = some (.place s (o' + off), A) := by simp [afieldK]
def afieldV (A : AHeap) (off : Nat) (v : Option AV) : Option (Slot × AHeap) := match v with
    | some (.ptr id o') => some (.v (.ptr id (o' + off)), A)
    | some (.sptr ds) => some (.v (.sptr (ds.drop off)), A)
    | some (.eptr tok len j o') => some (.v (.eptr tok len j (o' + off)), A)
    | _ => none
@[go_sem] theorem afieldK_none {n off : Nat} : afieldK env A (n + 1) x off none = afieldV A off (aeval env x) := by
  simp only [afieldK, afieldV, Nat.add_eq_zero_iff, Nat.one_ne_zero, and_false, if_false]
@[go_sem] theorem afieldV_ptr {id o' off : Nat} : afieldV A off (some (.ptr id o')) = some (.v (.ptr id (o' + off)), A) := by rfl
@[go_sem] theorem afieldV_sptr {off : Nat} {ds : List Dat} : afieldV A off (some (.sptr ds)) = some (.v (.sptr (ds.drop off)), A) := by rfl
@[go_sem] theorem o_field : aslot c call env A (.fieldAddr t x i) = afieldT env A x (fieldT c.P t i) := by
  simp only [aslot, afieldT, afieldK]
  rfl
def aindexK (c : ACtx) (env : AEnv) (A : AHeap) (t : TypeId) (x : Operand) (i : Option AV) : Option (Slot × AHeap) := match i with
    | some (.d (.int _ n)) => match arrT c.P t with
      | some (len, sz, _) => match aplace env x with
        | some (s, o') => if 0 ≤ n ∧ n < len then some (.place s (o' + n.toNat * sz), A) else none
        | none => none
      | none => match elemT c.P t, aeval env x with
        | some e, some v => (aindex e.2 A n v).map fun p => (.v p, A)
        | _, _ => none
    | _ => none
@[go_sem] theorem o_indexAddr : aslot c call env A (.indexAddr t x y) = aindexK c env A t x (aeval env y) := by
  simp only [aslot, aindexK]
  rfl
def aindexR (A : AHeap) (n : Int) (e : Option (TypeId × Nat)) (v : Option AV) : Option AV := match e, v with
 | some e, some v => aindex e.2 A n v
 | _, _ => none
@[go_sem] theorem aindexR_some {n : Int} {e : TypeId} {sz : Nat} : aindexR A n (some (e, sz)) (some v) = aindex sz A n v := by rfl
@[go_sem] theorem aindexK_slice {k : IntKind} {n : Int} (h : arrT c.P t = none) : aindexK c env A t x (some (.d (.int k n))) = asv A (aindexR A n (elemT c.P t) (aeval env x)) := by
  simp only [aindexK, h, asv, aindexR]
  cases elemT c.P t <;> cases aeval env x <;> rfl
def aindexP (n : Int) (len m : Nat) (A : AHeap) (p : Option (Nat × Nat)) : Option (Slot × AHeap) := match p with
    | some (s, o') => if 0 ≤ n ∧ n < len then some (.place s (o' + n.toNat * m), A) else none
    | none => none
@[go_sem] theorem aindexK_array {k : IntKind} {n : Int} {len sz : Nat} {agg : Bool} (h : arrT c.P t = some (len, sz, agg)) : aindexK c env A t x (some (.d (.int k n))) = aindexP n len sz A (aplace env x) := by
  simp only [aindexK, h, aindexP]
def acallK (call : FuncId → AFun) (A : AHeap) (g : Option AV) (args : Option (List AV)) : Option (AV × AHeap) := match g, args with
   | some (.func (.func f) first captured), some args => call f (first ++ args ++ captured) A
   | _, _ => none
def asv2 (x : Option (AV × AHeap)) : Option (Slot × AHeap) := x.map fun r => (.v r.1, r.2)
@[go_sem] theorem asv2_some : asv2 (some (v, A)) = some (.v v, A) := by rfl
@[go_sem] theorem asv2_none : asv2 none = none := by rfl
@[go_sem] theorem acallK_some {h : FuncId} {first args captured : List AV} : acallK call A (some (.func (.func h) first captured)) (some args) = call h (first ++ args ++ captured) A := by rfl
@[go_sem] theorem o_call {g : Operand} {args : Array Operand} {ts : Array TypeId} : aslot c call env A (.call ⟨.value g, args, ts⟩) = asv2 (acallK call A (aeval env g) (aevals env args.toList)) := by
  simp only [aslot, aval1, asv2, acallK]; rfl
def abuiltK (P : Program) (b : Builtin) (ts : Array TypeId) (A : AHeap) (args : Option (List AV)) : Option (AV × AHeap) := args.bind fun args => abuiltin P b ts args A
@[go_sem] theorem abuiltK_some {P : Program} {b : Builtin} {ts : Array TypeId} {args : List AV} : abuiltK P b ts A (some args) = abuiltin P b ts args A := by rfl
@[go_sem] theorem o_built {b : Builtin} {args : Array Operand} {ts : Array TypeId} : aslot c call env A (.call ⟨.builtin b, args, ts⟩) = asv2 (abuiltK c.P b ts A (aevals env args.toList)) := by
  simp only [aslot, aval1, asv2, abuiltK]
def aevalsC (v : Option AV) (vs : Option (List AV)) : Option (List AV) := v.bind fun a => vs.map (a :: ·)
@[go_sem] theorem aevalsC_some {vs : List AV} : aevalsC (some v) (some vs) = some (v :: vs) := by rfl
@[go_sem] theorem aevals_nil : aevals env [] = some [] := by rfl
@[go_sem] theorem aevals_cons {xs : List Operand} : aevals env (x :: xs) = aevalsC (aeval env x) (aevals env xs) := by rfl
end ops
def aslotV (x : Option Slot) : Option AV := match x with
 | some (.v x) => some x
 | _ => none
@[go_sem] theorem aslotV_some {x : AV} : aslotV (some (.v x)) = some x := by rfl
@[go_sem] theorem e_tmp {t : Nat} : aeval env (.tmp t) = aslotV (alook env t) := by rfl
@[go_sem] theorem e_bool {b : Bool} : aeval env (.const (.bool b)) = some (.d (.bool b)) := by rfl
@[go_sem] theorem e_int {k : IntKind} {n : Int} : aeval env (.const (.int k n)) = some (.d (.int k n)) := by rfl
@[go_sem] theorem e_str {s : Array UInt8} : aeval env (.const (.string ⟨s⟩)) = some (.d (.str s.toList)) := by rfl
@[go_sem] theorem e_nilS : aeval env (.const (.slice none 0 0)) = some .nilS := by rfl
@[go_sem] theorem e_nilP : aeval env (.const (.pointer none)) = some .nilP := by rfl
@[go_sem] theorem e_func {h : FuncId} : aeval env (.func h) = some (.func (.func h) [] []) := by rfl
@[go_sem] theorem e_agg {cs : Array Value} : aeval env (.const (.agg cs)) = (vcells cs.toList).map .agg := by rfl
attribute [go_sem] eq_self decide_true decide_false vcells vcell Option.map_some Option.bind_some Option.map_none Option.bind_none List.toList_toArray Bool.not_eq_true Bool.not_eq_false Bool.decide_eq_true if_true if_false reduceIte Bool.false_eq_true
@[go_sem] theorem beq_true' (x : Bool) : (x == true) = x := by cases x <;> rfl
@[go_sem] theorem beq_false' (x : Bool) : (x == false) = !x := by cases x <;> rfl
@[go_sem ↓] theorem ite_nb {α : Type} {b : Bool} {x y : α} : (if (!b) = true then x else y) = if b = true then y else x := by cases b <;> rfl
@[go_sem] theorem ite_or' {p : Prop} [Decidable p] {x : Bool} : (if p then true else x) = (decide p || x) := by by_cases h : p <;> simp [h]
@[go_sem] theorem ite_and' {p : Prop} [Decidable p] {x : Bool} : (if p then x else false) = (decide p && x) := by by_cases h : p <;> simp [h]
section bin
variable {P : Program} {t : TypeId} {k : IntKind} {a b : Int}
@[go_sem] theorem b_lss : abin P .lss t (.d (.int k a)) (.d (.int k b)) = some (.d (.bool (decide (a < b)))) := by simp [abin, aarith, acmp]
@[go_sem] theorem b_leq : abin P .leq t (.d (.int k a)) (.d (.int k b)) = some (.d (.bool (decide (a ≤ b)))) := by simp [abin, aarith, acmp]
@[go_sem] theorem b_gtr : abin P .gtr t (.d (.int k a)) (.d (.int k b)) = some (.d (.bool (decide (b < a)))) := by simp [abin, aarith, acmp]
@[go_sem] theorem b_geq : abin P .geq t (.d (.int k a)) (.d (.int k b)) = some (.d (.bool (decide (b ≤ a)))) := by simp [abin, aarith, acmp]
@[go_sem] theorem b_eql : abin P .eql t (.d (.int k a)) (.d (.int k b)) = some (.d (.bool (decide (a = b)))) := by simp [abin, aarith, acmp]; rfl
@[go_sem] theorem b_neq : abin P .neq t (.d (.int k a)) (.d (.int k b)) = some (.d (.bool (!decide (a = b)))) := by
  by_cases h : a = b <;> simp [abin, aarith, acmp, h]
end bin
@[go_sem] theorem aresults_one {r : ResultVar} : aresults c env A [r] = aresult c env A r := by
  unfold aresults aresultL aresultL
  cases aresult c env A r <;> rfl
@[go_sem] theorem aresult_tmp {t : Nat} : aresult c env A (.tmp t) = aslotV (alook env t) := by rfl
theorem acut_same {v : AV} (h : v.noptr = true) : acut A v A = (v, A) := by
 unfold acut
 rw [List.take_length, if_pos rfl, if_pos h, List.take_length]
theorem afinR_d {x : Dat} (h : c.own f = false) : afinR c f A A (some (.d x)) = some (.d x, A) := by
 simp only [afinR, Option.map_some, afinish, h, Bool.false_eq_true, if_false, acleanR, acleanV, aclean]
 rw [acut_same rfl]
theorem k_call {fn : Func} {code : Code} {args : List AV} (hg : c.ext f = none) (hf : c.P.funcs[f]? = some fn) (hb : fn.body = some code) (hk : fnOk c.P f = true) (ho : c.own f = false) (hnt : fn.ntmps = nt) {ra : Array ResultVar} (hrs : fn.results = ra)
  (hn : args.length ≤ nt) : acl c f args A = cek ⟨c, f, nt, ra.toList, A⟩ [] code (aenter 0 (acleanVs A args).1) (acleanVs A args).2 := by
 subst hnt; subst hrs
 rw [acl_eq hg hf hb hk hn]
 simp only [ho, Bool.false_eq_true, if_false]
 unfold cek afinK afinR aplug
 congr 1
@[go_sem] theorem ckr_one {r : ResultVar} : ckr ⟨c, f, nt, [r], A0⟩ env A = afinR c f A0 A (aresult c env A r) := by
  unfold ckr
  rw [aresults_one]
attribute [go_sem] aenter acleanVs acleanV aclean acleans
end
section
variable {c : ACtx} {call : FuncId → AFun} {f nt : Nat} {env e : AEnv} {A A0 A' : AHeap} {rs : List ResultVar} {F : AF} {ks : List KF}
variable {d s t u i n off id : Nat} {x y z : Operand} {v w : AV} {ty : TypeId} {pos : String} {after : Array Edge} {g : Option (Nat × Bool)}
def alayS (nt d : Nat) (s : Slot) (env : AEnv) (A : AHeap) : Option (AEnv × AHeap) := if d < nt then some ((d, s) :: env, A) else none
@[go_sem] theorem alayS_lt {s : Slot} (h : d < nt) : alayS nt d s env A = some ((d, s) :: env, A) := by simp [alayS, h]
def anewB (esc : Bool) (nt d : Nat) (o : AObj) (cs : List AV) (env : AEnv) (A : AHeap) : Option (AEnv × AHeap) :=
 if esc then alayS nt d (.v (.ptr A.objs.length 0)) env { A with objs := A.objs ++ [o] } else if noPlaceOf d env then alayS nt d (.box cs) env A else none
def anewV (c : ACtx) (T : TypeId) (esc : Bool) (nt d : Nat) (v : Option AV) (env : AEnv) (A : AHeap) : Option (AEnv × AHeap) := v.bind fun v => anewB esc nt d (mkObj c T v.cells) v.cells env A
@[go_sem] theorem mkObj_plain {T : TypeId} {cs : List AV} (h : c.typed T = false) : mkObj c T cs = .cells cs := by unfold mkObj; rw [h]; rfl
theorem anew_eq (esc : Bool) (o : AObj) (cs : List AV) : ((if esc = true then some (some (d, Slot.v (.ptr A.objs.length 0)), ({ A with objs := A.objs ++ [o] } : AHeap))
        else if noPlaceOf d env = true then some (some (d, Slot.box cs), A) else none).bind fun r => (alay nt r.1 env).map (·, r.2)) = anewB esc nt d o cs env A := by
 unfold anewB alayS
 cases esc
 ·cases noPlaceOf d env
  ·rfl
  ·by_cases h : d < nt <;> simp [alay, h]
 ·by_cases h : d < nt <;> simp [alay, h]
@[go_sem] theorem aop_alloc : aop c call f nt ⟨some d, .alloc t, ty, pos, after, g⟩ env A = anewV c t ((c.esc f).contains d) nt d (zeroT c.P t) env A := by
  simp only [aop, aeff, anewV]
  cases zeroT c.P t with
  | none => rfl
  | some z => exact anew_eq _ _ _
@[go_sem] theorem aop_box : aop c call f nt ⟨some d, .box t x, ty, pos, after, g⟩ env A = anewV c t ((c.esc f).contains d) nt d (aeval env x) env A := by
  simp only [aop, aeff, anewV]
  cases aeval env x with
  | none => rfl
  | some z => exact anew_eq _ _ _
@[go_sem] theorem anewV_some {T : TypeId} {b : Bool} : anewV c T b nt d (some v) env A = anewB b nt d (mkObj c T v.cells) v.cells env A := by rfl
@[go_sem] theorem anewB_true {o : AObj} {cs : List AV} : anewB true nt d o cs env A = alayS nt d (.v (.ptr A.objs.length 0)) env { A with objs := A.objs ++ [o] } := by rfl
@[go_sem] theorem anewB_false {o : AObj} {cs : List AV} (h : noPlaceOf d env = true) : anewB false nt d o cs env A = alayS nt d (.box cs) env A := by simp [anewB, h]
@[go_sem] theorem noPlaceOf_nil : noPlaceOf d [] = true := by rfl
@[go_sem] theorem noPlaceOf_v : noPlaceOf d ((t, .v v) :: env) = noPlaceOf d env := by rfl
@[go_sem] theorem noPlaceOf_box {cs : List AV} : noPlaceOf d ((t, .box cs) :: env) = noPlaceOf d env := by rfl
@[go_sem] theorem noPlaceOf_place (h : ¬ s = d) : noPlaceOf d ((t, .place s off) :: env) = noPlaceOf d env := by
  have : (s != d) = true := by simpa using h
  simp [noPlaceOf, this]
@[go_sem] theorem cells_agg {cs : List AV} : (AV.agg cs).cells = cs := by rfl
@[go_sem] theorem cells_d {x : Dat} : (AV.d x).cells = [.d x] := by rfl
@[go_sem] theorem cells_nilS : AV.nilS.cells = [.nilS] := by rfl
@[go_sem] theorem cells_own {a b : Nat} : (AV.own a b).cells = [.own a b] := by rfl
@[go_sem] theorem cells_ptr {a b : Nat} : (AV.ptr a b).cells = [.ptr a b] := by rfl
@[go_sem] theorem cells_func {fn : Fn} {a b : List AV} : (AV.func fn a b).cells = [.func fn a b] := by rfl
@[go_sem] theorem cells_mapr {a : Nat} : (AV.mapr a).cells = [.mapr a] := by rfl
@[go_sem] theorem cells_nilP : AV.nilP.cells = [.nilP] := by rfl
@[go_sem] theorem one_d {x : Dat} : (AV.d x).one = true := by rfl
@[go_sem] theorem one_nilS : AV.nilS.one = true := by rfl
@[go_sem] theorem one_own {a b : Nat} : (AV.own a b).one = true := by rfl
@[go_sem] theorem one_ptr {a b : Nat} : (AV.ptr a b).one = true := by rfl
@[go_sem] theorem one_func {fn : Fn} {a b : List AV} : (AV.func fn a b).one = true := by rfl
def allOne : List AV → Bool
 | [] => true
 | v :: vs => v.one && allOne vs
theorem allOne_eq : ∀ (l : List AV), l.all AV.one = allOne l
 | [] => rfl
 | v :: vs => by simp only [List.all_cons, allOne, allOne_eq vs]
@[go_sem] theorem allOne_nil : allOne [] = true := by rfl
@[go_sem] theorem allOne_cons {vs : List AV} (h : v.one = true) : allOne (v :: vs) = allOne vs := by simp [allOne, h]
def astoH (env : AEnv) (A : AHeap) (cs : List AV) (a : Option AV) : Option (AEnv × AHeap) := match a with
 | some a => (astore A cs a).map (env, ·)
 | none => none
def astoL (nt : Nat) (env : AEnv) (A : AHeap) (s : Nat) (r : Option (List AV)) : Option (AEnv × AHeap) := match r with
 | some cs => alayS nt s (.box cs) env A
 | none => none
def astoB (nt : Nat) (env : AEnv) (A : AHeap) (s off : Nat) (cs : List AV) (b : Option (List AV)) : Option (AEnv × AHeap) := match b with
 | some bs => astoL nt env A s (asplice bs off cs)
 | none => none
def astoP (nt : Nat) (env : AEnv) (A : AHeap) (x : Operand) (cs : List AV) (p : Option (Nat × Nat)) : Option (AEnv × AHeap) := match p with
 | some (s, off) => astoB nt env A s off cs (abox env s)
 | none => astoH env A cs (aeval env x)
def astoC (nt : Nat) (env : AEnv) (A : AHeap) (x : Operand) (n : Nat) (cs : List AV) : Option (AEnv × AHeap) :=
 if n = cs.length ∧ allOne cs = true then astoP nt env A x cs (aplace env x) else none
def astoV (nt : Nat) (env : AEnv) (A : AHeap) (x : Operand) (k : Option (Nat × Bool)) (v : Option AV) : Option (AEnv × AHeap) := match k, v with
 | some k, some v => astoC nt env A x k.1 v.cells
 | _, _ => none
@[go_sem] theorem aop_store : aop c call f nt ⟨none, .store t x y, ty, pos, after, g⟩ env A = astoV nt env A x (kindT c.P t) (aeval env y) := by
  simp only [aop, aeff, astoV, astoC, astoP, astoB, astoL, astoH, alayS, allOne_eq]
  cases aeval env y with
  | none => cases kindT c.P t <;> rfl
  | some v =>
    cases kindT c.P t with
    | none => simp
    | some k =>
      simp only [Option.bind_some, Option.map_some, Option.some.injEq]
      by_cases h : k.1 = v.cells.length ∧ allOne v.cells = true
      ·rw [if_pos h, if_pos h]
       cases aplace env x with
       | none =>
         simp only
         cases aeval env x with
         | none => rfl
         | some a =>
           simp only [Option.bind_some]
           cases astore A v.cells a <;> rfl
       | some p =>
         simp only
         cases abox env p.1 with
         | none => rfl
         | some bs =>
           simp only [Option.bind_some]
           cases asplice bs p.2 v.cells with
           | none => rfl
           | some cs =>
             simp only [Option.map_some, Option.bind_some, alay]
             split <;> rfl
      ·rw [if_neg h, if_neg h]
       rfl
@[go_sem] theorem astoV_some {agg : Bool} : astoV nt env A x (some (n, agg)) (some v) = astoC nt env A x n v.cells := by rfl
@[go_sem] theorem astoC_ok {cs : List AV} (h1 : cs.length = n) (h2 : allOne cs = true) : astoC nt env A x n cs = astoP nt env A x cs (aplace env x) := by simp [astoC, h1, h2]
@[go_sem] theorem astoP_some {cs : List AV} : astoP nt env A x cs (some (s, off)) = astoB nt env A s off cs (abox env s) := by rfl
@[go_sem] theorem astoP_none {cs : List AV} : astoP nt env A x cs none = astoH env A cs (aeval env x) := by rfl
@[go_sem] theorem astoB_some {cs bs : List AV} : astoB nt env A s off cs (some bs) = astoL nt env A s (asplice bs off cs) := by rfl
@[go_sem] theorem astoL_some {cs : List AV} : astoL nt env A s (some cs) = alayS nt s (.box cs) env A := by rfl
def aover : Nat → List AV → List AV → List AV
 | 0, new, cells => new ++ cells.drop new.length
 | n + 1, new, c :: cells => c :: aover n new cells
 | _ + 1, new, [] => new
theorem aover_eq : ∀ (off : Nat) (new cells : List AV), off + new.length ≤ cells.length → cells.take off ++ new ++ cells.drop (off + new.length) = aover off new cells
 | 0, new, cells, _ => by simp [aover]
 | n + 1, new, c :: cells, h => by
   have := aover_eq n new cells (by simp at h; omega)
   simp only [aover, List.take_succ_cons, List.cons_append]
   rw [← this]
   congr 2
   rw [show n + 1 + new.length = (n + new.length) + 1 by omega, List.drop_succ_cons]
 | n + 1, new, [], h => by simp at h
@[go_sem] theorem asplice_ok {cells new : List AV} (h : off + new.length ≤ cells.length) : asplice cells off new = some (aover off new cells) := by rw [asplice, if_pos h, aover_eq off new cells h]
@[go_sem] theorem aover_zero {new cells : List AV} : aover 0 new cells = new ++ cells.drop new.length := by rfl
@[go_sem] theorem aover_succ {new cells : List AV} : aover (n + 1) new (v :: cells) = v :: aover n new cells := by rfl
@[go_sem] theorem astoH_some {cs : List AV} : astoH env A cs (some v) = (astore A cs v).map (env, ·) := by rfl
def astoO (A : AHeap) (id off : Nat) (vs : List AV) (o : Option AObj) : Option AHeap := match o with
 | some (.cells cs) => (asplice cs off vs).map fun cs' => { A with objs := A.objs.set id (.cells cs') }
 | some (.tcells T cs) => (asplice cs off vs).map fun cs' => { A with objs := A.objs.set id (.tcells T cs') }
 | _ => none
@[go_sem] theorem astore_ptr {vs : List AV} : astore A vs (.ptr id off) = astoO A id off vs A.objs[id]? := by rfl
@[go_sem] theorem astoO_some {vs cs : List AV} : astoO A id off vs (some (.cells cs)) = (asplice cs off vs).map fun cs' => { A with objs := A.objs.set id (.cells cs') } := by rfl
@[go_sem] theorem noesc_P : c.noesc.P = c.P := by rfl
@[go_sem] theorem noesc_esc : c.noesc.esc f = [] := by rfl
noncomputable def qops (c : ACtx) (call : FuncId → AFun) (f nt : Nat) (ops : Array Oper) : List Oper → AEnv → AHeap → Option AEnv
 | [], env, _ => some env
 | o :: rest, env, A => (astep c call f nt ops o env A).bind fun r => open Classical in if r.2 = A ∧ pstore env o = none then qops c call f nt ops rest r.1 A else none
theorem qops_trace (ops : Array Oper) : ∀ (rest : List Oper) (i : Nat) (env e : AEnv) (A : AHeap), qops c call f nt ops rest env A = some e →
  ∃ ms, atrace c call f nt ops i rest env A = some ((e, A), ms) ∧ ∀ m ∈ ms, ¬ m.co ∧ ¬ m.cb ∧ m.px = none
 | [], i, env, e, A, h => by
   simp only [qops, Option.some.injEq] at h
   subst h
   exact ⟨[], rfl, fun m hm => by cases hm⟩
 | o :: rest, i, env, e, A, h => by
   simp only [qops, astep] at h
   simp only [atrace]
   cases hg : aguard ops env o with
   | none => rw [hg] at h; simp at h
   | some b =>
     rw [hg] at h
     simp only [Option.bind_some] at h ⊢
     cases b with
     | true =>
       simp only [if_true] at h ⊢
       cases ha : aop c call f nt o env A with
       | none => rw [ha] at h; simp at h
       | some r =>
         rw [ha] at h
         simp only [Option.bind_some] at h ⊢
         split at h
         ·rename_i hr
          obtain ⟨ms, h1, h2⟩ := qops_trace ops rest (i + 1) r.1 e A h
          rw [hr.1, h1]
          refine ⟨_, rfl, fun m hm => ?_⟩
          rcases List.mem_cons.1 hm with rfl | hm
          ·exact ⟨fun hc => hc rfl, fun hc => hc rfl, hr.2⟩
          ·exact h2 m hm
         ·cases h
     | false =>
       simp only [Bool.false_eq_true, if_false] at h ⊢
       cases ha : aput nt o.dst (.v (.tuple [])) env with
       | none => rw [ha] at h; simp at h
       | some r =>
         rw [ha] at h
         simp only [Option.map_some, Option.bind_some] at h ⊢
         split at h
         ·obtain ⟨ms, h1, h2⟩ := qops_trace ops rest (i + 1) r e A h
          rw [h1]
          refine ⟨_, rfl, fun m hm => ?_⟩
          rcases List.mem_cons.1 hm with rfl | hm
          ·exact ⟨fun hc => hc, fun hc => hc, rfl⟩
          ·exact h2 m hm
         ·cases h
theorem adrawn_quiet {ops : Array Oper} {ms : List AMark} (h : ∀ m ∈ ms, ¬ m.co ∧ ¬ m.cb ∧ m.px = none) : adrawn ops ms :=
 ⟨fun m hm m' _ _ hx => by rcases hx with hx | hx; exact absurd hx.1 (h m hm).1; exact absurd hx.1 (h m hm).2.1, fun m hm s hx => by rw [(h m hm).2.2] at hx; cases hx⟩
theorem aregion_quiet {ops : Array Oper} (h : qops c.noesc call f nt ops ops.toList (noPlaces env) A = some e) : aregion c call f nt ops true env A = some (apromote (c.esc f) ops.toList e A) := by
 obtain ⟨ms, h1, h2⟩ := qops_trace ops ops.toList 0 _ _ _ h
 simp only [aregion, if_true, h1, Option.bind_some]
 rw [if_pos (.inl (adrawn_quiet h2))]
noncomputable def cekHard (F : AF) (ks : List KF) (code : Code) (env : AEnv) (A : AHeap) : Option (AV × AHeap) := cek F ks code env A
noncomputable def cq (F : AF) (ks : List KF) (fb : Option (AV × AHeap)) (ops : Array Oper) (rest : List Oper) (env : AEnv) (A : AHeap) : Option (AV × AHeap) :=
 match qops F.c.noesc (acl F.c) F.f F.nt ops rest env A with
 | some e => ckn F ks (apromote (F.c.esc F.f) ops.toList e A).1 (apromote (F.c.esc F.f) ops.toList e A).2
 | none => fb
noncomputable def cqR (F : AF) (ks : List KF) (fb : Option (AV × AHeap)) (ops : Array Oper) (rest : List Oper) (A : AHeap) (r : Option (AEnv × AHeap)) : Option (AV × AHeap) :=
 match r.bind fun r => open Classical in if r.2 = A then qops F.c.noesc (acl F.c) F.f F.nt ops rest r.1 A else none with
 | some e => ckn F ks (apromote (F.c.esc F.f) ops.toList e A).1 (apromote (F.c.esc F.f) ops.toList e A).2
 | none => fb
@[congr] theorem cq_congr {fb : Option (AV × AHeap)} {ops : Array Oper} {rest : List Oper} (h : env = e) (h' : A = A') : cq F ks fb ops rest env A = cq F ks fb ops rest e A' := by rw [h, h']
@[congr] theorem cqR_congr {fb : Option (AV × AHeap)} {ops : Array Oper} {rest : List Oper} {r r' : Option (AEnv × AHeap)} (h : r = r') : cqR F ks fb ops rest A r = cqR F ks fb ops rest A r' := by rw [h]
theorem k_drawn_q {l : List Oper} : cek F ks (.region id l.toArray true) env A = cq F ks (cekHard F ks (.region id l.toArray true) env A) l.toArray l (noPlaces (atrim F.c F.f (some id) env)) A := by
 unfold cq
 split
 ·rename_i e h
  rw [cek_region, aregion_quiet h]
  rfl
 ·rfl
@[go_sem low] theorem cq_cons {fb : Option (AV × AHeap)} {ops : Array Oper} {o : Oper} {rest : List Oper} (h : pstore env o = none) :
  cq F ks fb ops (o :: rest) env A = cqR F ks fb ops rest A (astep F.c.noesc (acl F.c) F.f F.nt ops o env A) := by
  have : (fun r : AEnv × AHeap => open Classical in if r.2 = A ∧ pstore env o = none then qops F.c.noesc (acl F.c) F.f F.nt ops rest r.1 A else none) =
    fun r => open Classical in if r.2 = A then qops F.c.noesc (acl F.c) F.f F.nt ops rest r.1 A else none := by
   funext r
   by_cases hr : r.2 = A <;> simp [hr, h]
  simp only [cq, cqR, qops, this]
@[go_sem] theorem cqR_some {fb : Option (AV × AHeap)} {ops : Array Oper} {rest : List Oper} : cqR F ks fb ops rest A (some (e, A)) = cq F ks fb ops rest e A := by
  unfold cq cqR
  simp
@[go_sem] theorem cq_nil {fb : Option (AV × AHeap)} {ops : List Oper} : cq F ks fb ops.toArray [] env A = ckn F ks (apromote (F.c.esc F.f) ops env A).1 (apromote (F.c.esc F.f) ops env A).2 := by rfl
@[go_sem] theorem apromote_nil {l : List Nat} : apromote l [] env A = (env, A) := by rfl
@[go_sem] theorem apromote_none {l : List Nat} {op : Op} {rest : List Oper} : apromote l (⟨none, op, ty, pos, after, g⟩ :: rest) env A = apromote l rest env A := by rfl
@[go_sem] theorem apromote_no {l : List Nat} {op : Op} {rest : List Oper} (h : (Op.lays op && l.contains d) = false) : apromote l (⟨some d, op, ty, pos, after, g⟩ :: rest) env A = apromote l rest env A := by
  simp only [apromote, h]
  rfl
@[go_sem] theorem noPlaces_nil : noPlaces [] = [] := by rfl
@[go_sem] theorem noPlaces_v : noPlaces ((t, .v v) :: env) = (t, .v v) :: noPlaces env := by rfl
@[go_sem] theorem noPlaces_box {cs : List AV} : noPlaces ((t, .box cs) :: env) = (t, .box cs) :: noPlaces env := by rfl
@[go_sem] theorem pstore_store : pstore env ⟨none, .store t x y, ty, pos, after, g⟩ = (aplace env x).map (·.1) := by rfl
@[go_sem low] theorem pstore_slot {o : Oper} (h : isSlot o.op = true) : pstore env o = none := by
  unfold pstore
  cases hop : o.op <;> rw [hop] at h <;> first | rfl | (simp [isSlot] at h)
@[go_sem] theorem pstore_alloc : pstore env ⟨some d, .alloc t, ty, pos, after, g⟩ = none := by rfl
theorem aresultL_nil : aresultL c env A [] = some [] := by rfl
def aresC (v : Option AV) (vs : Option (List AV)) : Option (List AV) := v.bind fun v => vs.map (v :: ·)
@[go_sem] theorem aresC_some {vs : List AV} : aresC (some v) (some vs) = some (v :: vs) := by rfl
theorem aresultL_cons {r : ResultVar} : aresultL c env A (r :: rs) = aresC (aresult c env A r) (aresultL c env A rs) := by rfl
def aresT (vs : Option (List AV)) : Option AV := vs.map fun vs => match vs with
    | [v] => v
    | vs => .tuple vs
@[go_sem] theorem aresT_two {v1 v2 : AV} : aresT (some [v1, v2]) = some (.tuple [v1, v2]) := by rfl
@[go_sem] theorem aresT_three {v1 v2 v3 : AV} {l : List AV} : aresT (some (v1 :: v2 :: v3 :: l)) = some (.tuple (v1 :: v2 :: v3 :: l)) := by rfl
@[go_sem] theorem ckr_nil : ckr ⟨c, f, nt, [], A0⟩ env A = afinR c f A0 A (some (.tuple [])) := by rfl
@[go_sem] theorem ckr_more {r r' : ResultVar} : ckr ⟨c, f, nt, r :: r' :: rs, A0⟩ env A = afinR c f A0 A (aresT (aresC (aresult c env A r) (aresC (aresult c env A r') (aresultL c env A rs)))) := by rfl
attribute [go_sem] aresultL_nil aresultL_cons
def aresCell (env : AEnv) (A : AHeap) (t : Nat) (k : Option (Nat × Bool)) (p : Option (Nat × Nat)) : Option AV := match k with
 | some (n, agg) => aloadK env A n agg (.tmp t) p
 | none => none
@[go_sem] theorem aresult_cell : aresult c env A (.cell t ty) = aresCell env A t (kindT c.P ty) (aplace env (.tmp t)) := by
  simp only [aresult, aresCell, aloadK, apartS, abindV]
  cases kindT c.P ty with
  | none => rfl
  | some k => rfl
@[go_sem] theorem aresCell_some {agg : Bool} {p : Option (Nat × Nat)} : aresCell env A t (some (n, agg)) p = aloadK env A n agg (.tmp t) p := by rfl
def AV.clean1 : AV → AV
 | .nilS => .d (.slice [])
 | .full rows => .d (.slice rows)
 | v => v
def AV.still1 : AV → Bool
 | .d _ | .nilP | .nilF | .nilI | .nilM | .nilS | .full _ => true
 | _ => false
theorem aclean_still (h : v.still1 = true) : aclean A v = (v.clean1, A) := by
 cases v <;> first | rfl | (simp [AV.still1] at h)
theorem acleans_still : ∀ {cs : List AV}, cs.all AV.still1 = true → acleans A cs = (cs.map AV.clean1, A)
 | [], _ => rfl
 | v :: vs, h => by
   simp only [List.all_cons, Bool.and_eq_true] at h
   simp only [acleans, aclean_still h.1, acleans_still h.2, List.map_cons]
def AV.still2 : AV → Bool
 | .agg cs => cs.all AV.still1
 | v => v.still1
def AV.clean2 : AV → AV
 | .agg cs => .agg (cs.map AV.clean1)
 | v => v.clean1
theorem acleanV_still (h : v.still2 = true) : acleanV A v = (v.clean2, A) := by
 cases v with
 | agg cs => simp only [AV.still2] at h; simp only [acleanV, acleans_still h, AV.clean2]
 | _ => simp only [AV.still2] at h; simp only [acleanV, AV.clean2]; exact aclean_still h
theorem acleanVs_still : ∀ {cs : List AV}, cs.all AV.still2 = true → acleanVs A cs = (cs.map AV.clean2, A)
 | [], _ => rfl
 | v :: vs, h => by
   simp only [List.all_cons, Bool.and_eq_true] at h
   simp only [acleanVs, acleanV_still h.1, acleanVs_still h.2, List.map_cons]
def AV.still3 : AV → Bool
 | .tuple cs => cs.all AV.still2
 | v => v.still2
def AV.clean3 : AV → AV
 | .tuple cs => .tuple (cs.map AV.clean2)
 | v => v.clean2
theorem acleanR_still (h : v.still3 = true) : acleanR A v = (v.clean3, A) := by
 cases v with
 | tuple cs => simp only [AV.still3] at h; simp only [acleanR, acleanVs_still h, AV.clean3]
 | _ => simp only [AV.still3] at h; simp only [acleanR, AV.clean3]; exact acleanV_still h
theorem noptr1_clean (h : v.still1 = true) : v.clean1.noptr1 = true := by
 cases v <;> first | rfl | (simp [AV.still1] at h)
theorem noptr2_clean (h : v.still2 = true) : v.clean2.noptr2 = true := by
 cases v with
 | agg cs =>
   simp only [AV.still2, List.all_eq_true] at h
   simp only [AV.clean2, AV.noptr2, List.all_map, List.all_eq_true]
   exact fun x hx => noptr1_clean (h x hx)
 | _ => first | rfl | (simp [AV.still2, AV.still1] at h)
theorem noptr_clean (h : v.still3 = true) : v.clean3.noptr = true := by
 cases v with
 | tuple cs =>
   simp only [AV.still3, List.all_eq_true] at h
   simp only [AV.clean3, AV.noptr, List.all_map, List.all_eq_true]
   exact fun x hx => noptr2_clean (h x hx)
 | agg cs => exact noptr2_clean (v := .agg cs) h
 | _ => first | rfl | (simp [AV.still3, AV.still2, AV.still1] at h)
theorem acut_back {objs : List AObj} {bufs : List ABuf} (h : v.noptr = true) : acut A0 v ⟨A0.objs ++ objs, A0.bufs ++ bufs⟩ = (v, A0) := by
 unfold acut
 simp only [List.take_left', if_true, h]
theorem afinR_still (ho : c.own f = false) (h : v.still3 = true) : afinR c f A A (some v) = some (v.clean3, A) := by
 simp only [afinR, Option.map_some, afinish, ho, Bool.false_eq_true, if_false, acleanR_still h]
 rw [acut_same (noptr_clean h)]
theorem afinR_back {objs : List AObj} {bufs : List ABuf} (ho : c.own f = false) (h : v.still3 = true) : afinR c f A0 ⟨A0.objs ++ objs, A0.bufs ++ bufs⟩ (some v) = some (v.clean3, A0) := by
 simp only [afinR, Option.map_some, afinish, ho, Bool.false_eq_true, if_false, acleanR_still h]
 rw [acut_back (noptr_clean h)]
theorem afinR_len (ho : c.own f = false) (h : v.still3 = true) (h1 : A.objs.length = A0.objs.length) (h2 : A.bufs.length = A0.bufs.length) : afinR c f A0 A (some v) = some (v.clean3, A) := by
 simp only [afinR, Option.map_some, afinish, ho, Bool.false_eq_true, if_false, acleanR_still h]
 unfold acut
 split
 ·rename_i he
  rw [if_pos (noptr_clean h), ← he, ← h2, ← h1, List.take_length, List.take_length]
 ·rfl
theorem acutO_same (h : A.objs.take A0.objs.length = A0.objs) : acutO A0 v A = acut A0 v A := by unfold acutO; rw [if_pos h]
theorem afinR_loud (ho : c.own f = false) (h : v.still3 = true) (h1 : A.objs.take A0.objs.length ≠ A0.objs) : afinR c f A0 A (some v) = some (v.clean3, A) := by
 simp only [afinR, Option.map_some, afinish, ho, Bool.false_eq_true, if_false, acleanR_still h]
 unfold acut
 rw [if_neg h1]
end
section
variable {c : ACtx} {call : FuncId → AFun} {f nt : Nat} {env e : AEnv} {A A0 A' : AHeap} {rs : List ResultVar} {F : AF} {ks : List KF} {P : Program}
variable {d s t u i n off id : Nat} {x y z : Operand} {v w : AV} {ty : TypeId} {a b : List UInt8} {k : IntKind}
@[go_sem] theorem b_sadd (h : a.length + b.length ≤ 1099511627776) : abin P .add t (.d (.str a)) (.d (.str b)) = some (.d (.str (a ++ b))) := by simp [abin, astr, h]
@[go_sem] theorem b_seql : abin P .eql t (.d (.str a)) (.d (.str b)) = some (.d (.bool (a == b))) := by rfl
@[go_sem] theorem b_sneq : abin P .neq t (.d (.str a)) (.d (.str b)) = some (.d (.bool (!(a == b)))) := by rfl
@[go_sem] theorem b_slss : abin P .lss t (.d (.str a)) (.d (.str b)) = some (.d (.bool (Op.bytesLess a b))) := by rfl
@[go_sem] theorem b_bneq {p q : Bool} (h : boolT P t = true) : abin P .neq t (.d (.bool p)) (.d (.bool q)) = some (.d (.bool (!(p == q)))) := by simp [abin, h]
@[go_sem] theorem beq_nn : (([] : List UInt8) == []) = true := by rfl
@[go_sem] theorem beq_cn {x : UInt8} : (x :: a == []) = false := by rfl
theorem int_deq (a b : Int) : (a == b) = decide (a = b) := by by_cases h : a = b <;> simp [h]
@[go_sem] theorem b_iadd {p q : Int} : abin P .add t (.d (.int k p)) (.d (.int k q)) = some (.d (.int k (k.wrap (p + q)))) := by simp [abin, aarith]
@[go_sem] theorem b_isub {p q : Int} : abin P .sub t (.d (.int k p)) (.d (.int k q)) = some (.d (.int k (k.wrap (p - q)))) := by simp [abin, aarith]
@[go_sem] theorem b_imul {p q : Int} : abin P .mul t (.d (.int k p)) (.d (.int k q)) = some (.d (.int k (k.wrap (p * q)))) := by simp [abin, aarith]
@[go_sem] theorem b_iquo {p q : Int} (h : ¬ q = 0) : abin P .quo t (.d (.int k p)) (.d (.int k q)) = some (.d (.int k (k.wrap (p.tdiv q)))) := by simp [abin, aarith, h]
@[go_sem] theorem b_ishr {p q : Int} (h : 0 ≤ q ∧ q ≤ 8) : abin P .shr t (.d (.int k p)) (.d (.int k q)) = some (.d (.int k (p / 2 ^ q.toNat))) := by simp [abin, aarith, h]
@[go_sem] theorem b_irem {p q : Int} (h : ¬ q = 0) : abin P .rem t (.d (.int k p)) (.d (.int k q)) = some (.d (.int k (p.tmod q))) := by simp [abin, aarith, h]
def aeqF (ks : List Nat) (xs ys : List AV) : Option Bool := aeqCells ks xs ys
def aeqG (neg : Bool) (r : Option Bool) : Option AV := r.map fun b => .d (.bool (if neg then !b else b))
def aeqT (neg : Bool) (ks : Option (List Nat)) (xs ys : List AV) : Option AV := match ks with
 | some ks => aeqG neg (aeqF ks xs ys)
 | none => none
@[go_sem] theorem b_aeql {xs ys : List AV} : abin P .eql t (.agg xs) (.agg ys) = aeqT false (flatT P t) xs ys := by
  simp only [abin, aeqT, aeqG, aeqF]
  cases flatT P t <;> rfl
@[go_sem] theorem aeqT_some {ks : List Nat} {xs ys : List AV} {neg : Bool} : aeqT neg (some ks) xs ys = aeqG neg (aeqF ks xs ys) := by rfl
@[go_sem] theorem aeqG_false {b : Bool} : aeqG false (some b) = some (.d (.bool b)) := by rfl
def aandR (p : Bool) (r : Option Bool) : Option Bool := r.map (p && ·)
@[go_sem] theorem aandR_some {p q : Bool} : aandR p (some q) = some (p && q) := by rfl
@[go_sem] theorem aeqF_nil : aeqF [] [] [] = some true := by rfl
@[go_sem] theorem aeqF_int {ks : List Nat} {p q : Int} {xs ys : List AV} : aeqF (1 :: ks) (.d (.int k p) :: xs) (.d (.int k q) :: ys) = aandR (decide (p = q)) (aeqF ks xs ys) := by
  simp only [aeqF, aandR, aeqCells, if_true, int_deq]
@[go_sem] theorem aeqF_str {ks : List Nat} {xs ys : List AV} : aeqF (2 :: ks) (.d (.str a) :: xs) (.d (.str b) :: ys) = aandR (a == b) (aeqF ks xs ys) := by rfl
@[go_sem] theorem bu_len : abuiltin P .len #[t] [v] A = (alen A (lenT P t) v).map fun (n : Nat) => (.d (.int .i64 (n : Int)), A) := by rfl
@[go_sem] theorem alen_str : alen A 1 (.d (.str a)) = some a.length := by rfl
@[go_sem] theorem alen_slice {r : List (List Dat)} : alen A 2 (.d (.slice r)) = some r.length := by rfl
@[go_sem] theorem alen_nilS : alen A 2 .nilS = some 0 := by rfl
@[go_sem] theorem alen_own {p q : Nat} : alen A 2 (.own p q) = some q := by rfl
@[go_sem] theorem natCast_zero : ((0 : Nat) : Int) = 0 := by rfl
@[go_sem] theorem natCast_one : ((1 : Nat) : Int) = 1 := by rfl
@[go_sem] theorem bu_max2 {ts : Array TypeId} {p q : Int} {k' : IntKind} : abuiltin P .max ts [.d (.int k p), .d (.int k' q)] A = some (.d (.int k (if q > p then q else p)), A) := by rfl
@[go_sem] theorem bu_min2 {ts : Array TypeId} {p q : Int} {k' : IntKind} : abuiltin P .min ts [.d (.int k p), .d (.int k' q)] A = some (.d (.int k (if q < p then q else p)), A) := by rfl
def aidxG (c : ACtx) (t : TypeId) (v w : Option AV) : Option AV := match v, w with
    | some (.d (.str s)), some (.d (.int _ n)) => if strT c.P t = true ∧ 0 ≤ n then (s[n.toNat]?).map fun b => .d (.int .u8 b.toNat) else none
    | some (.agg cs), some (.d (.int _ n)) => match arrT c.P t with
      | some (len, sz, agg) => if 0 ≤ n ∧ n < len then apart cs (n.toNat * sz) sz agg else none
      | none => none
    | _, _ => none
@[go_sem] theorem o_index : aslot c call env A (.index t x y) = asv A (aidxG c t (aeval env x) (aeval env y)) := by
  simp only [aslot, aval1, asv]
  generalize aeval env x = v1
  generalize aeval env y = v2
  have none_ok : ∀ {r : Option AV}, r = none → Option.map (fun v => (Slot.v v, A)) r = none := fun h => by rw [h]; rfl
  cases v1 with
  | none => rfl
  | some v =>
    cases v2 with
    | none => cases v with
      | d dd => cases dd <;> rfl
      | _ => rfl
    | some w =>
      cases v with
      | d dd =>
        cases dd with
        | str s =>
          cases w with
          | d dw =>
            cases dw with
            | int k n =>
              simp only [aidxG]
              split
              ·cases s[n.toNat]? <;> rfl
              ·rfl
            | _ => rfl
          | _ => rfl
        | _ => cases w with
          | d dw => cases dw <;> rfl
          | _ => rfl
      | agg cs =>
        cases w with
        | d dw =>
          cases dw with
          | int k n =>
            simp only [aidxG]
            cases arrT c.P t with
            | none => rfl
            | some q =>
              simp only
              split
              ·simp only [Option.map_map]; rfl
              ·rfl
          | _ => rfl
        | _ => rfl
      | _ => cases w with
        | d dw => cases dw <;> rfl
        | _ => rfl
@[go_sem] theorem aidxG_str {n : Nat} (h : strT c.P t = true) {r : UInt8} (hr : a[n]? = some r) : aidxG c t (some (.d (.str a))) (some (.d (.int k (n : Int)))) = some (.d (.int .u8 r.toNat)) := by
  simp [aidxG, h, hr]
@[go_sem] theorem aidxG_str0 (h : strT c.P t = true) {r : UInt8} : aidxG c t (some (.d (.str (r :: a)))) (some (.d (.int k 0))) = some (.d (.int .u8 r.toNat)) := by
  simp [aidxG, h]
theorem getElem?_mid {α : Type} {pre suf : List α} {x : α} : (pre ++ x :: suf)[pre.length]? = some x := by simp
@[go_sem] theorem aidxG_strm (h : strT c.P t = true) {r : UInt8} {pre suf : List UInt8} : aidxG c t (some (.d (.str (pre ++ r :: suf)))) (some (.d (.int k (pre.length : Int)))) = some (.d (.int .u8 r.toNat)) :=
  aidxG_str h getElem?_mid
def arowS (sz : Nat) (row : Option (List Dat)) : Option AV := match row with
 | some row => if row.length = sz then some (.sptr row) else none
 | none => none
@[go_sem] theorem aindex_slice {r : List (List Dat)} {n : Nat} : aindex i A (n : Int) (.d (.slice r)) = arowS i r[n]? := by
  simp only [aindex, arows, arowS, Int.natCast_nonneg, if_true, Int.toNat_natCast]
  rfl
@[go_sem] theorem aindex_slice0 {r : List (List Dat)} : aindex i A 0 (.d (.slice r)) = arowS i r[0]? := aindex_slice (n := 0)
@[go_sem] theorem arowS_some {row : List Dat} (h : row.length = n) : arowS n (some row) = some (.sptr row) := by simp [arowS, h]
@[go_sem] theorem map_mid {α β : Type} {f : α → β} {pre suf : List α} {x : α} : ((pre ++ x :: suf).map f)[pre.length]? = some (f x) := by simp
def asliL (c : ACtx) (t : TypeId) (v : Option AV) (h : Option AV) : Option AV := match v, h with
 | some v, some (.d (.int _ n)) => match v.plainS with
   | .d (.str s) => if strT c.P t = true ∧ 0 ≤ n ∧ n ≤ s.length then some (.d (.str (s.take n.toNat))) else none
   | .d (.slice r) => if (elemT c.P t).isSome = true ∧ 0 ≤ n ∧ n ≤ r.length then some (.d (.slice (r.take n.toNat))) else none
   | .own _ _ => if (elemT c.P t).isSome = true ∧ n = 0 then some (.d (.slice [])) else none
   | _ => none
 | _, _ => none
theorem o_slice_hi : aslot c call env A (.slice t x none (some y) none) = asv A (asliL c t (aeval env x) (aeval env y)) := by
 simp only [aslot, aval1, asliL, asv, Option.map_none, Option.map_some]
 cases aeval env x with
 | none => rfl
 | some v =>
   simp only [Option.map_some]
   cases aeval env y with
   | none => cases v.plainS <;> first | rfl | (rename_i dd; cases dd <;> rfl)
   | some w =>
     cases w with
     | d dd =>
       cases dd with
       | int k n =>
         simp only
         cases v.plainS with
         | d dd =>
           cases dd with
           | str s => simp only; split <;> rfl
           | slice r => simp only; split <;> rfl
           | _ => rfl
         | own _ _ => simp only; split <;> rfl
         | _ => rfl
       | _ => cases v.plainS <;> first | rfl | (rename_i dd; cases dd <;> rfl)
     | _ => cases v.plainS <;> first | rfl | (rename_i dd; cases dd <;> rfl)
attribute [go_sem] o_slice_hi
@[go_sem] theorem asliL_slice {r : List (List Dat)} {n : Nat} (h : (elemT c.P t).isSome = true) (hn : n ≤ r.length) : asliL c t (some (.d (.slice r))) (some (.d (.int k (n : Int)))) = some (.d (.slice (r.take n))) := by
  have : (n : Int) ≤ r.length := by exact_mod_cast hn
  simp [asliL, AV.plainS, h, this]
def afillR (z : Option AV) (fs : Option (List (Nat × Nat))) (ps : Option (List (Nat × AV))) : Option AV := match z, fs, ps with
    | some z, some fs, some ps => (afill (fun i => fs[i]?) z.cells ps).map .agg
    | _, _, _ => none
@[go_sem] theorem o_build {ps : Array (Nat × Operand)} : aslot c call env A (.build t ps) = asv A (afillR (zeroT c.P t) (fieldsT c.P t) (aparts env ps.toList)) := by
  simp only [aslot, aval1, afillR, asv]
  cases zeroT c.P t <;> cases fieldsT c.P t <;> cases aparts env ps.toList <;> try rfl
  simp only [Option.map_map]
  rfl
def afillF (fs : List (Nat × Nat)) (cells : List AV) (ps : List (Nat × AV)) : Option (List AV) := afill (fun i => fs[i]?) cells ps
@[go_sem] theorem afillR_some {fs : List (Nat × Nat)} {ps : List (Nat × AV)} : afillR (some v) (some fs) (some ps) = (afillF fs v.cells ps).map .agg := by rfl
@[go_sem] theorem afillF_nil {fs : List (Nat × Nat)} {cells : List AV} : afillF fs cells [] = some cells := by rfl
def afillP (fs : List (Nat × Nat)) (cells : List AV) (vs : List AV) (ps : List (Nat × AV)) (q : Option (Nat × Nat)) : Option (List AV) := match q with
 | some (off, n) => if vs.length = n then (asplice cells off vs).bind fun cs => afillF fs cs ps else none
 | none => none
@[go_sem] theorem afillF_cons {fs : List (Nat × Nat)} {cells : List AV} {ps : List (Nat × AV)} : afillF fs cells ((i, v) :: ps) = afillP fs cells v.cells ps fs[i]? := by
  simp only [afillF, afill, afillP]
  cases fs[i]? <;> rfl
def afillFB (fs : List (Nat × Nat)) (ps : List (Nat × AV)) (r : Option (List AV)) : Option (List AV) := r.bind fun cs => afillF fs cs ps
@[congr] theorem afillFB_congr {fs : List (Nat × Nat)} {ps : List (Nat × AV)} {r r' : Option (List AV)} (h : r = r') : afillFB fs ps r = afillFB fs ps r' := by rw [h]
@[go_sem] theorem afillFB_some {fs : List (Nat × Nat)} {ps : List (Nat × AV)} {cs : List AV} : afillFB fs ps (some cs) = afillF fs cs ps := by rfl
@[go_sem] theorem afillP_some {fs : List (Nat × Nat)} {cells vs : List AV} {ps : List (Nat × AV)} (h : vs.length = n) : afillP fs cells vs ps (some (off, n)) = afillFB fs ps (asplice cells off vs) := by
  simp [afillP, afillFB, h]
def apartsC (i : Nat) (v : Option AV) (ps : Option (List (Nat × AV))) : Option (List (Nat × AV)) := v.bind fun a => ps.map ((i, a) :: ·)
@[go_sem] theorem aparts_nil : aparts env [] = some [] := by rfl
@[go_sem] theorem aparts_cons {ps : List (Nat × Operand)} : aparts env ((i, x) :: ps) = apartsC i (aeval env x) (aparts env ps) := by rfl
@[go_sem] theorem apartsC_some {ps : List (Nat × AV)} : apartsC i (some v) (some ps) = some ((i, v) :: ps) := by rfl
def adatL : List AV → Option (List Dat)
 | [] => some []
 | .d x :: vs => (adatL vs).map (x :: ·)
 | .nilS :: vs => (adatL vs).map (.slice [] :: ·)
 | .full r :: vs => (adatL vs).map (.slice r :: ·)
 | _ :: _ => none
theorem adats_L : ∀ {vs : List AV} {ds : List Dat}, adatL vs = some ds → adats A vs = some (ds, A)
 | [], ds, h => by simp only [adatL, Option.some.injEq] at h; subst h; rfl
 | v :: vs, ds, h => by
   cases v with
   | d x =>
     simp only [adatL, Option.map_eq_some_iff] at h
     obtain ⟨es, h1, rfl⟩ := h
     simp [adats, adat, adats_L h1]
   | nilS =>
     simp only [adatL, Option.map_eq_some_iff] at h
     obtain ⟨es, h1, rfl⟩ := h
     simp [adats, adat, adats_L h1]
   | full r =>
     simp only [adatL, Option.map_eq_some_iff] at h
     obtain ⟨es, h1, rfl⟩ := h
     simp [adats, adat, adats_L h1]
   | _ => simp [adatL] at h
def aconsD (x : Dat) (r : Option (List Dat)) : Option (List Dat) := r.map (x :: ·)
@[go_sem] theorem aconsD_some {x : Dat} {l : List Dat} : aconsD x (some l) = some (x :: l) := by rfl
@[go_sem] theorem adatL_nil : adatL [] = some [] := by rfl
@[go_sem] theorem adatL_d {x : Dat} {vs : List AV} : adatL (.d x :: vs) = aconsD x (adatL vs) := by rfl
@[go_sem] theorem adatL_nilS {vs : List AV} : adatL (.nilS :: vs) = aconsD (.slice []) (adatL vs) := by rfl
def abslE (A : AHeap) (sz n : Nat) (cs : List AV) (r : Option (List Dat)) : Option (AV × AHeap) := match r with
 | some ds => some (.full (achunk sz n ds), A)
 | none => (adats A cs).map fun r => (.full (achunk sz n r.1), r.2)
@[go_sem] theorem abslE_some {cs : List AV} {sz : Nat} {ds : List Dat} : abslE A sz n cs (some ds) = some (.full (achunk sz n ds), A) := by rfl
theorem abslE_eq {cs : List AV} {sz : Nat} : (adats A cs).map (fun r => (AV.full (achunk sz n r.1), r.2)) = abslE A sz n cs (adatL cs) := by
 unfold abslE
 cases h : adatL cs with
 | none => rfl
 | some ds => rw [adats_L h]; rfl
def abslC (A : AHeap) (sz n : Nat) (cs : Option (List AV)) : Option (AV × AHeap) := match cs with
 | some cs => abslE A sz n cs (adatL cs)
 | none => none
@[go_sem] theorem abslC_some {cs : List AV} {sz : Nat} : abslC A sz n (some cs) = abslE A sz n cs (adatL cs) := by rfl
def afillN (sz : Nat) (cells : List AV) (ps : List (Nat × AV)) : Option (List AV) := afill (fun i => some (i * sz, sz)) cells ps
def abslP (A : AHeap) (sz n : Nat) (z : Option AV) (ps : List (Nat × AV)) : Option (AV × AHeap) := match z with
   | some z => if z.cells.length = sz ∧ 0 < sz ∧ n * sz ≤ 16777216 then abslC A sz n (afillN sz (List.replicate n z.cells).flatten ps) else none
   | none => none
@[go_sem] theorem abslP_some {sz : Nat} {ps : List (Nat × AV)} (h1 : v.cells.length = sz) (h2 : 0 < sz) (h3 : n * sz ≤ 16777216) : abslP A sz n (some v) ps = abslC A sz n (afillN sz (List.replicate n v.cells).flatten ps) := by
  simp [abslP, h1, h2, h3]
def abslT (P : Program) (A : AHeap) (n : Nat) (e : Option (TypeId × Nat)) (ps : Option (List (Nat × AV))) : Option (AV × AHeap) := match e, ps with
    | some e, some ps => abslP A e.2 n (zeroT P e.1) ps
    | _, _ => none
@[go_sem] theorem abslT_some {ps : List (Nat × AV)} {sz : Nat} : abslT P A n (some (t, sz)) (some ps) = abslP A sz n (zeroT P t) ps := by rfl
@[go_sem] theorem noesc_nilT : c.noesc.nilT = c.nilT := by rfl
@[go_sem] theorem o_buildSlice {ps : Array (Nat × Operand)} (hn : c.nilT = fun _ => false) : aslot c call env A (.buildSlice t n ps) = asv2 (abslT c.P A n (elemT c.P t) (aparts env ps.toList)) := by
  simp only [aslot, aval1, asv2, abslT, abslP, abslC, afillN, hn, adatsT, cond_false]
  cases elemT c.P t with
  | none => rfl
  | some e =>
    cases aparts env ps.toList with
    | none => rfl
    | some ps =>
      simp only
      cases zeroT c.P e.1 with
      | none => rfl
      | some z =>
        simp only
        split
        ·cases afill _ _ _ with
         | none => rfl
         | some cs => simp only [Option.bind_some]; rw [abslE_eq]
        ·rfl
@[go_sem] theorem afillN_nil {sz : Nat} {cells : List AV} : afillN sz cells [] = some cells := by rfl
def afillNB (sz : Nat) (ps : List (Nat × AV)) (r : Option (List AV)) : Option (List AV) := r.bind fun cs => afillN sz cs ps
@[congr] theorem afillNB_congr {sz : Nat} {ps : List (Nat × AV)} {r r' : Option (List AV)} (h : r = r') : afillNB sz ps r = afillNB sz ps r' := by rw [h]
@[go_sem] theorem afillNB_some {sz : Nat} {ps : List (Nat × AV)} {cs : List AV} : afillNB sz ps (some cs) = afillN sz cs ps := by rfl
@[go_sem] theorem afillN_cons {sz : Nat} {cells : List AV} {ps : List (Nat × AV)} (h : v.cells.length = sz) : afillN sz cells ((i, v) :: ps) = afillNB sz ps (asplice cells (i * sz) v.cells) := by
  simp [afillN, afillNB, afill, h]
attribute [go_sem] achunk
@[go_sem] theorem rep_flat_zero {l : List AV} : (List.replicate 0 l).flatten = [] := by rfl
@[go_sem] theorem rep_flat_succ {l : List AV} : (List.replicate (n + 1) l).flatten = l ++ (List.replicate n l).flatten := by simp [List.replicate_succ]
def agrow (A : AHeap) (e sz : Nat) (rows : List (List Dat)) : AV × AHeap :=
 if rows = [] then (.nilS, A) else (.own A.bufs.length rows.length, { A with bufs := A.bufs ++ [⟨e, sz, rows, 0⟩] })
theorem agrow_append {sz ty : Nat} {rows src : List (List Dat)} (hr : aroomT P ty sz = true) (hs : src.all (fun r => r.length == sz) = true) (hn : rows.length + src.length ≤ 4194304) :
  aappend P ty sz (agrow A ty sz rows).2 (agrow A ty sz rows).1 src = some (agrow A ty sz (rows ++ src)) := by
 unfold agrow aappend
 rw [if_pos ⟨hr, hs⟩]
 by_cases h : rows = []
 ·subst h
  by_cases h' : src = []
  ·subst h'; simp
  ·simp only [if_true, List.nil_append, if_neg h']
   rw [if_pos (by simpa using hn)]
 ·simp only [if_neg h]
  have hne : ¬ (rows ++ src = []) := by simp [h]
  simp only [if_neg hne]
  simp [hn]
def aappT (P : Program) (A : AHeap) (v w : AV) (same : Bool) (e : Option (TypeId × Nat)) : Option (AV × AHeap) := if same then (match e with
   | some e => (arows A w).bind fun src => aappend P e.1 e.2 A v src
   | none => none) else none
@[go_sem] theorem bu_append : abuiltin P .append #[t, t] [v, w] A = aappT P A v w true (elemT P t) := by
  simp only [abuiltin, aappT, if_true]
  rfl
def aappR (P : Program) (e sz : Nat) (A : AHeap) (v : AV) (src : Option (List (List Dat))) : Option (AV × AHeap) := src.bind fun src => aappend P e sz A v src
@[go_sem] theorem aappT_some {e : TypeId} {sz : Nat} : aappT P A v w true (some (e, sz)) = aappR P e sz A v (arows A w) := by rfl
@[go_sem] theorem aappR_some {e sz : Nat} {src : List (List Dat)} : aappR P e sz A v (some src) = aappend P e sz A v src := by rfl
@[go_sem] theorem arows_slice {r : List (List Dat)} : arows A (.d (.slice r)) = some r := by rfl
@[go_sem] theorem arows_full {r : List (List Dat)} : arows A (.full r) = some r := by rfl
def amkfR (fn : Fn) (a b : Option (List AV)) : Option AV := match a, b with
    | some a, some b => some (.func fn a b)
    | _, _ => none
@[go_sem] theorem o_makeFunc {fn : Fn} {p q : Array Operand} : aslot c call env A (.makeFunc fn p q) = asv A (amkfR fn (aevals env p.toList) (aevals env q.toList)) := by
  simp only [aslot, aval1, asv, amkfR]
  cases aevals env p.toList <;> cases aevals env q.toList <;> rfl
@[go_sem] theorem amkfR_some {fn : Fn} {p q : List AV} : amkfR fn (some p) (some q) = some (.func fn p q) := by rfl
@[go_sem] theorem get_behind {α : Type} {l m : List α} {n : Nat} : (l ++ m)[l.length + n]? = m[n]? := by rw [List.getElem?_append_right (by omega)]; congr 1; omega
@[go_sem] theorem get_behind0 {α : Type} {l m : List α} : (l ++ m)[l.length]? = m[0]? := by rw [List.getElem?_append_right (by omega)]; congr 1; omega
@[go_sem] theorem set_behind {α : Type} {l m : List α} {n : Nat} {x : α} : (l ++ m).set (l.length + n) x = l ++ m.set n x := by
  rw [List.set_append_right _ _ (by omega)]; congr 2; omega
@[go_sem] theorem set_behind0 {α : Type} {l m : List α} {x : α} : (l ++ m).set l.length x = l ++ m.set 0 x := by
  rw [List.set_append_right _ _ (by omega)]; congr 2; omega
attribute [go_sem] List.append_assoc List.length_append List.set_cons_zero List.set_cons_succ List.length_map
end
section
variable {c : ACtx} {call : FuncId → AFun} {f nt : Nat} {env e : AEnv} {A A0 A' : AHeap} {rs : List ResultVar} {F : AF} {ks : List KF} {P : Program}
variable {d s t u i n off id : Nat} {x y z : Operand} {v w : AV} {ty : TypeId} {a b : List UInt8} {k : IntKind}
@[go_sem] theorem i_range : isSlot (.range t x) = true := by simp only [isSlot]
@[go_sem] theorem i_next {b : Bool} : isSlot (.next x b) = true := by simp only [isSlot]
def arngK (c : ACtx) (A : AHeap) (t : TypeId) (v : Option AV) : Option (Slot × AHeap) := match v with
    | some (.d (.str s)) => if strT c.P t = true then some (.v (.ptr A.objs.length 0), { A with objs := A.objs ++ [.iter s 0] }) else none
    | _ => none
@[go_sem] theorem o_range : aslot c call env A (.range t x) = arngK c A t (aeval env x) := by
  simp only [aslot, aval1, arngK]
  generalize aeval env x = v1
  cases v1 with
  | none => rfl
  | some v =>
    cases v with
    | d dd =>
      cases dd with
      | str s => simp only; split <;> rfl
      | _ => rfl
    | _ => rfl
@[go_sem] theorem arngK_some (h : strT c.P t = true) : arngK c A t (some (.d (.str a))) = some (.v (.ptr A.objs.length 0), { A with objs := A.objs ++ [.iter a 0] }) := by simp [arngK, h]
@[go_sem] theorem o_next : aslot c call env A (.next x true) = asv2 ((aeval env x).bind (anext A)) := by
  simp only [aslot, aval1, asv2, if_true]
def anextO (A : AHeap) (id : Nat) (o : Option AObj) : Option (AV × AHeap) := match o with
    | some (.iter s pos) => if pos < s.length then
      some (.tuple [.d (.bool true), .d (.int .i64 pos), .d (.int .i32 (Utf8.decode ⟨s.toArray⟩ pos).1)], { A with objs := A.objs.set id (.iter s (pos + (Utf8.decode ⟨s.toArray⟩ pos).2)) })
      else some (.tuple [.d (.bool false)], A)
    | _ => none
@[go_sem] theorem anext_ptr : anext A (.ptr id 0) = anextO A id A.objs[id]? := by rfl
theorem decode_mid {pre suf : List UInt8} {x : UInt8} (h : x.toNat < 128) : Utf8.decode ⟨(pre ++ x :: suf).toArray⟩ pre.length = (x.toNat, 1) := by
 have hp : pre.length < (⟨(pre ++ x :: suf).toArray⟩ : ByteArray).size := by simp [ByteArray.size]
 have hx : (⟨(pre ++ x :: suf).toArray⟩ : ByteArray)[pre.length]'hp = x := by simp [ByteArray.getElem_eq_getElem_data]
 rw [decode_ascii _ _ hp (by rw [hx]; exact h), hx]
theorem decode_midh {pre suf : List UInt8} {x : UInt8} (h : 128 ≤ x.toNat) : 128 ≤ (Utf8.decode ⟨(pre ++ x :: suf).toArray⟩ pre.length).1 := by
 have hp : pre.length < (⟨(pre ++ x :: suf).toArray⟩ : ByteArray).size := by simp [ByteArray.size]
 have hx : (⟨(pre ++ x :: suf).toArray⟩ : ByteArray)[pre.length]'hp = x := by simp [ByteArray.getElem_eq_getElem_data]
 exact (decode_high _ _ hp (by rw [hx]; exact h)).1
theorem anextO_low {pre suf : List UInt8} {x : UInt8} (h : x.toNat < 128) : anextO A id (some (.iter (pre ++ x :: suf) pre.length)) =
  some (.tuple [.d (.bool true), .d (.int .i64 pre.length), .d (.int .i32 x.toNat)], { A with objs := A.objs.set id (.iter (pre ++ x :: suf) (pre.length + 1)) }) := by
 simp [anextO, decode_mid h]
theorem anextO_end {a : List UInt8} : anextO A id (some (.iter a a.length)) = some (.tuple [.d (.bool false)], A) := by
 simp [anextO]
theorem anextO_high {pre suf : List UInt8} {x : UInt8} (h : 128 ≤ x.toNat) : ∃ r w, 128 ≤ r ∧ anextO A id (some (.iter (pre ++ x :: suf) pre.length)) =
  some (.tuple [.d (.bool true), .d (.int .i64 pre.length), .d (.int .i32 (r : Nat))], { A with objs := A.objs.set id (.iter (pre ++ x :: suf) w) }) :=
 ⟨_, _, decode_midh (pre := pre) (suf := suf) h, by simp [anextO]; rfl⟩
noncomputable def cloop (F : AF) (ks : List KF) (x : Code) (env : AEnv) (A : AHeap) : Option (AV × AHeap) := cek F (.loop x :: ks) x env A
@[congr] theorem cloop_congr {y : Code} {e' : AEnv} {A' : AHeap} (h : env = e') (h' : A = A') : cloop F ks y env A = cloop F ks y e' A' := by rw [h, h']
@[go_sem] theorem k_cloop {y : Code} : cek F ks (.loop y) env A = cloop F ks y (atrim F.c F.f (firstRegion y) env) A := k_loop
theorem unroll {y : Code} : cloop F ks y env A = cek F (.loop y :: ks) y env A := rfl
theorem loop_any {α : Type} {body : Code} {env : AEnv} {A : AHeap} {r : Option (AV × AHeap)} (mk : List α → AEnv) (H : List α → AHeap) (R : List α → List α → Option (AV × AHeap)) (l : List α)
  (henv : env = mk []) (hA : A = H []) (hr : r = R [] l)
  (h : ∀ pre suf, l = pre ++ suf → (∀ x suf', suf = x :: suf' → cloop F ks body (mk (pre ++ [x])) (H (pre ++ [x])) = R (pre ++ [x]) suf') → cek F (.loop body :: ks) body (mk pre) (H pre) = R pre suf) :
  cloop F ks body env A = r := by
 have key : ∀ (suf pre : List α), l = pre ++ suf → cloop F ks body (mk pre) (H pre) = R pre suf := by
  intro suf
  induction suf with
  | nil => intro pre hl; exact h pre [] hl (fun x s hs => by cases hs)
  | cons x suf ih =>
    intro pre hl
    refine h pre (x :: suf) hl (fun y s hs => ?_)
    cases hs
    exact ih (pre ++ [x]) (by simp [hl])
 rw [henv, hA, hr]
 exact key l [] rfl
theorem loop_list {α : Type} {body : Code} {env : AEnv} {A : AHeap} {r : Option (AV × AHeap)} (mk : Nat → AEnv) (R : List α → List α → Option (AV × AHeap)) (l : List α)
  (henv : env = mk 0) (hr : r = R [] l)
  (h : ∀ pre suf, l = pre ++ suf → (∀ x suf', suf = x :: suf' → cloop F ks body (mk (pre.length + 1)) A = R (pre ++ [x]) suf') → cek F (.loop body :: ks) body (mk pre.length) A = R pre suf) :
  cloop F ks body env A = r :=
 loop_any (fun pre => mk pre.length) (fun _ => A) R l henv rfl hr fun pre suf hl ih => h pre suf hl fun x suf' hs => by
  have := ih x suf' hs
  rwa [List.length_append] at this
theorem wayK {α : Type} {b : Bool} {t e r : Option α} (ht : b = true → t = r) (hf : b = false → e = r) : acondK (some (.d (.bool b))) t e = r := by
 cases b
 ·exact hf rfl
 ·exact ht rfl
@[go_sem] theorem lt_mid {a b : Nat} : decide ((a : Int) < ((a + (b + 1) : Nat) : Int)) = true := by simp; omega
@[go_sem] theorem lt_self {a : Int} : decide (a < a) = false := by simp
theorem wrap_in {n : Int} (h1 : -9223372036854775808 ≤ n) (h2 : n ≤ 9223372036854775807) : IntKind.i64.wrap n = n := by
 unfold IntKind.wrap
 simp [IntKind.bits, IntKind.signed]
 split <;> omega
theorem wrap_nat {n : Nat} (h : n < 9223372036854775807) : IntKind.i64.wrap ((n : Int) + 1) = ((n + 1 : Nat) : Int) := by
 rw [wrap_in] <;> omega
def aconvI (o : Option IntKind) (m : Int) : Option AV := o.map fun k => .d (.int k (k.wrap m))
@[go_sem] theorem aconv_int {j : IntKind} {m : Int} : aconv P s t (.d (.int j m)) = aconvI (convT P s t) m := by rfl
@[go_sem] theorem aconvI_some {m : Int} : aconvI (some k) m = some (.d (.int k (k.wrap m))) := by rfl
@[go_sem] theorem wrap_u8_i32 {b : UInt8} : IntKind.i32.wrap ((b.toNat : Nat) : Int) = ((b.toNat : Nat) : Int) := by
  have := b.toNat_lt
  unfold IntKind.wrap
  simp [IntKind.bits, IntKind.signed]
  split <;> omega
@[go_sem] theorem still3_d {x : Dat} : (AV.d x).still3 = true := by rfl
@[go_sem] theorem still3_agg {cs : List AV} : (AV.agg cs).still3 = cs.all AV.still1 := by rfl
@[go_sem] theorem still3_tuple {cs : List AV} : (AV.tuple cs).still3 = cs.all AV.still2 := by rfl
@[go_sem] theorem still2_d {x : Dat} : (AV.d x).still2 = true := by rfl
@[go_sem] theorem still2_nilS : AV.nilS.still2 = true := by rfl
@[go_sem] theorem still2_agg {cs : List AV} : (AV.agg cs).still2 = cs.all AV.still1 := by rfl
@[go_sem] theorem still1_d {x : Dat} : (AV.d x).still1 = true := by rfl
@[go_sem] theorem still1_nilS : AV.nilS.still1 = true := by rfl
@[go_sem] theorem clean3_d {x : Dat} : (AV.d x).clean3 = .d x := by rfl
@[go_sem] theorem clean3_agg {cs : List AV} : (AV.agg cs).clean3 = .agg (cs.map AV.clean1) := by rfl
@[go_sem] theorem clean3_tuple {cs : List AV} : (AV.tuple cs).clean3 = .tuple (cs.map AV.clean2) := by rfl
@[go_sem] theorem clean2_d {x : Dat} : (AV.d x).clean2 = .d x := by rfl
@[go_sem] theorem clean2_nilS : AV.nilS.clean2 = .d (.slice []) := by rfl
@[go_sem] theorem clean2_agg {cs : List AV} : (AV.agg cs).clean2 = .agg (cs.map AV.clean1) := by rfl
@[go_sem] theorem clean1_d {x : Dat} : (AV.d x).clean1 = .d x := by rfl
@[go_sem] theorem clean1_nilS : AV.nilS.clean1 = .d (.slice []) := by rfl
attribute [go_sem] List.all_cons List.all_nil
attribute [go_sem] afinR_still
@[go_sem] theorem afinR_obj {objs : List AObj} (ho : c.own f = false) (h : v.still3 = true) : afinR c f A0 ⟨A0.objs ++ objs, A0.bufs⟩ (some v) = some (v.clean3, A0) := by
  have := afinR_back (A0 := A0) (objs := objs) (bufs := []) ho h
  rwa [List.append_nil] at this
attribute [go_sem] afinR_back
end
section
variable {X : AEnv → AHeap → Prop}
variable {c : ACtx} {call : FuncId → AFun} {f nt : Nat} {env e : AEnv} {A A0 A' : AHeap} {rs : List ResultVar} {F : AF} {ks : List KF} {P : Program}
variable {d s t u i j n off id : Nat} {x y z : Operand} {v w : AV} {ty : TypeId} {pos : String} {after : Array Edge} {g : Option (Nat × Bool)} {w' : Bool}
@[go_sem] theorem us_move {dst : Option Tmp} : auses env f c ⟨dst, .move x, ty, pos, after, g⟩ = (false, false) := by rfl
@[go_sem] theorem us_assign {dst : Option Tmp} : auses env f c ⟨dst, .assign x, ty, pos, after, g⟩ = (false, false) := by rfl
@[go_sem] theorem us_build {dst : Option Tmp} {ps} : auses env f c ⟨dst, .build t ps, ty, pos, after, g⟩ = (false, false) := by rfl
@[go_sem] theorem us_nilCheck {dst : Option Tmp} : auses env f c ⟨dst, .nilCheck x, ty, pos, after, g⟩ = (false, false) := by rfl
@[go_sem] theorem us_binOp {dst : Option Tmp} {op} : auses env f c ⟨dst, .binOp op t x y u, ty, pos, after, g⟩ = (false, false) := by rfl
@[go_sem] theorem us_makeFunc {dst : Option Tmp} {fn a b} : auses env f c ⟨dst, .makeFunc fn a b, ty, pos, after, g⟩ = (false, false) := by rfl
@[go_sem] theorem us_extract {dst : Option Tmp} : auses env f c ⟨dst, .extract x i, ty, pos, after, g⟩ = (false, false) := by rfl
@[go_sem] theorem us_fieldAddr {dst : Option Tmp} : auses env f c ⟨dst, .fieldAddr t x i, ty, pos, after, g⟩ = (false, false) := by rfl
def usL (p : Option (Nat × Nat)) (v : Option AV) : Bool × Bool := match p, v with
    | some _, _ => (false, false)
    | none, some (.sptr _) => (false, false)
    | none, some (.ptr _ _) => (true, false)
    | none, some (.eptr _ _ _ _) => (false, true)
    | _, _ => (true, true)
@[go_sem] theorem us_load {dst : Option Tmp} : auses env f c ⟨dst, .load t x, ty, pos, after, g⟩ = usL (aplace env x) (aeval env x) := by rfl
@[go_sem] theorem usL_some {p : Nat × Nat} {o : Option AV} : usL (some p) o = (false, false) := by cases o <;> rfl
@[go_sem] theorem usL_sptr {ds : List Dat} : usL none (some (.sptr ds)) = (false, false) := by rfl
@[go_sem] theorem usL_ptr : usL none (some (.ptr id off)) = (true, false) := by rfl
@[go_sem] theorem usL_eptr {a b c d : Nat} : usL none (some (.eptr a b c d)) = (false, true) := by rfl
def usS (p : Option (Nat × Nat)) (v : Option AV) : Bool × Bool := match p, v with
    | some _, _ => (false, false)
    | none, some (.ptr _ _) => (true, false)
    | none, some (.eptr _ _ _ _) => (false, true)
    | _, _ => (true, true)
@[go_sem] theorem us_store {dst : Option Tmp} : auses env f c ⟨dst, .store t x y, ty, pos, after, g⟩ = usS (aplace env x) (aeval env x) := by rfl
@[go_sem] theorem usS_some {p : Nat × Nat} {o : Option AV} : usS (some p) o = (false, false) := by cases o <;> rfl
@[go_sem] theorem usS_ptr : usS none (some (.ptr id off)) = (true, false) := by rfl
@[go_sem] theorem usS_eptr {a b c d : Nat} : usS none (some (.eptr a b c d)) = (false, true) := by rfl
@[go_sem] theorem us_alloc : auses env f c ⟨some d, .alloc t, ty, pos, after, g⟩ = ((c.esc f).contains d, false) := by rfl
def usI (v : Option AV) : Bool × Bool := match v with
    | some (.own _ _) => (false, true)
    | _ => (false, false)
@[go_sem] theorem us_indexAddr {dst : Option Tmp} : auses env f c ⟨dst, .indexAddr t x y, ty, pos, after, g⟩ = usI (aeval env x) := by rfl
@[go_sem] theorem usI_own {a b : Nat} : usI (some (.own a b)) = (false, true) := by rfl
@[go_sem] theorem usI_d {a : Dat} : usI (some (.d a)) = (false, false) := by rfl
def usB (v : Option (List (Nat × AV))) : Bool × Bool := match v with
    | some ps => (false, !(ps.all fun p => p.2.cells.all AV.ownfree))
    | none => (true, true)
@[go_sem] theorem us_buildSlice {dst : Option Tmp} {ps} : auses env f c ⟨dst, .buildSlice t n ps, ty, pos, after, g⟩ = usB (aparts env ps.toList) := by rfl
@[go_sem] theorem usB_some {ps : List (Nat × AV)} : usB (some ps) = (false, !(ps.all fun p => p.2.cells.all AV.ownfree)) := by rfl
@[go_sem] theorem ownfree_d {a : Dat} : (AV.d a).ownfree = true := by rfl
@[go_sem] theorem ownfree_nilS : AV.nilS.ownfree = true := by rfl
@[go_sem] theorem us_call {dst : Option Tmp} {h : Operand} {args ts} : auses env f c ⟨dst, .call ⟨.value h, args, ts⟩, ty, pos, after, g⟩ = (true, true) := by rfl
@[go_sem] theorem us_append {dst : Option Tmp} {args ts} : auses env f c ⟨dst, .call ⟨.builtin .append, args, ts⟩, ty, pos, after, g⟩ = (false, true) := by rfl
@[go_sem] theorem us_max {dst : Option Tmp} {args ts} : auses env f c ⟨dst, .call ⟨.builtin .max, args, ts⟩, ty, pos, after, g⟩ = (false, false) := by rfl
@[go_sem] theorem us_min {dst : Option Tmp} {args ts} : auses env f c ⟨dst, .call ⟨.builtin .min, args, ts⟩, ty, pos, after, g⟩ = (false, false) := by rfl
def usN (v : Option (List AV)) : Bool × Bool := match v with
   | some [.mapr _] => (true, false)
   | some _ => (false, false)
   | none => (true, true)
@[go_sem] theorem us_len {dst : Option Tmp} {args ts} : auses env f c ⟨dst, .call ⟨.builtin .len, args, ts⟩, ty, pos, after, g⟩ = usN (aevals env args.toList) := by rfl
noncomputable def ct (F : AF) (X : AEnv → AHeap → Prop) (ks : List KF) (ops : Array Oper) (i : Nat) (rest : List Oper) (env : AEnv) (A : AHeap) (ms : List AMark) : Option (AV × AHeap) :=
 (atrace F.c.noesc (acl F.c) F.f F.nt ops i rest env A).bind fun r => open Classical in
  if adrawn ops (ms ++ r.2) ∨ X r.1.1 r.1.2 then ckn F ks (apromote (F.c.esc F.f) ops.toList r.1.1 r.1.2).1 (apromote (F.c.esc F.f) ops.toList r.1.1 r.1.2).2 else none
@[congr] theorem ct_congr {ops : Array Oper} {rest : List Oper} {ms : List AMark} (h : env = e) (h' : A = A') : ct F X ks ops i rest env A ms = ct F X ks ops i rest e A' ms := by rw [h, h']
noncomputable def ctX (F : AF) (ops : Array Oper) (env : AEnv) (A : AHeap) : AEnv → AHeap → Prop := fun e B => aexp F.c.noesc (acl F.c) F.f F.nt ops (aagree A.bufs.length e B) ops.size (Array.replicate ops.size false) (noPlaces env) A
theorem k_drawn_t {l : List Oper} : cek F ks (.region id l.toArray true) env A = ct F (ctX F l.toArray (atrim F.c F.f (some id) env) A) ks l.toArray 0 l (noPlaces (atrim F.c F.f (some id) env)) A [] := by
 rw [cek_region]
 unfold ct cokr aregion
 simp only [if_true, List.nil_append, Option.bind_assoc]
 cases atrace F.c.noesc (acl F.c) F.f F.nt l.toArray 0 l (noPlaces (atrim F.c F.f (some id) env)) A with
 | none => rfl
 | some r =>
   simp only [Option.bind_some]
   unfold ctX
   split <;> rfl
noncomputable def ctS (F : AF) (X : AEnv → AHeap → Prop) (ks : List KF) (ops : Array Oper) (i : Nat) (rest : List Oper) (A : AHeap) (ms : List AMark) (us : Bool × Bool) (px : Option Nat) (tc : List Nat) (ld : Option (Nat × Bool × AV)) (r : Option (AEnv × AHeap)) : Option (AV × AHeap) :=
 r.bind fun r => ct F X ks ops (i + 1) rest r.1 r.2 (ms ++ [⟨i, us, px, tc, r.2.objs ≠ A.objs, r.2.bufs ≠ A.bufs, ld, achg r.2 A⟩])
@[congr] theorem ctS_congr {ops : Array Oper} {rest : List Oper} {ms : List AMark} {us us' : Bool × Bool} {px px' : Option Nat} {tc : List Nat} {ld : Option (Nat × Bool × AV)} {r r' : Option (AEnv × AHeap)} (h1 : us = us') (h2 : px = px') (h3 : r = r') :
  ctS F X ks ops i rest A ms us px tc ld r = ctS F X ks ops i rest A ms us' px' tc ld r' := by rw [h1, h2, h3]
@[go_sem] theorem ctS_some {ops : Array Oper} {rest : List Oper} {ms : List AMark} {us : Bool × Bool} {px : Option Nat} {tc : List Nat} {ld : Option (Nat × Bool × AV)} :
  ctS F X ks ops i rest A ms us px tc ld (some (e, A')) = ct F X ks ops (i + 1) rest e A' (ms ++ [⟨i, us, px, tc, A'.objs ≠ A.objs, A'.bufs ≠ A.bufs, ld, achg A' A⟩]) := by rfl
@[go_sem low] theorem ct_cons {ops : Array Oper} {dst : Option Tmp} {op : Op} {rest : List Oper} {ms : List AMark} :
  ct F X ks ops i (⟨dst, op, ty, pos, after, none⟩ :: rest) env A ms = ctS F X ks ops i rest A ms (auses env F.f F.c.noesc ⟨dst, op, ty, pos, after, none⟩) (pstore env ⟨dst, op, ty, pos, after, none⟩) (atouch ops env ⟨dst, op, ty, pos, after, none⟩) (aldOf env F.c.noesc ⟨dst, op, ty, pos, after, none⟩) (aop F.c.noesc (acl F.c) F.f F.nt ⟨dst, op, ty, pos, after, none⟩ env A) := by
  unfold ctS ct
  simp only [atrace, aguard, Option.bind_some, if_true]
  cases aop F.c.noesc (acl F.c) F.f F.nt ⟨dst, op, ty, pos, after, none⟩ env A with
  | none => rfl
  | some r =>
    simp only [Option.bind_some]
    cases atrace F.c.noesc (acl F.c) F.f F.nt ops (i + 1) rest r.1 r.2 with
    | none => rfl
    | some q =>
      simp only [Option.map_some, Option.bind_some]
      rw [List.append_assoc]
      rfl
@[go_sem] theorem ct_slot {ops : Array Oper} {dst : Option Tmp} {op : Op} {rest : List Oper} {ms : List AMark} (h : isSlot op = true) :
  ct F X ks ops i (⟨dst, op, ty, pos, after, none⟩ :: rest) env A ms = ctS F X ks ops i rest A ms (auses env F.f F.c.noesc ⟨dst, op, ty, pos, after, none⟩) none (atouch ops env ⟨dst, op, ty, pos, after, none⟩) (aldOf env F.c.noesc ⟨dst, op, ty, pos, after, none⟩) (aputS F.nt dst env (aslot F.c.noesc (acl F.c) env A op)) := by
  rw [ct_cons, aop_slot h, pstore_slot h]
noncomputable def ctE (F : AF) (X : AEnv → AHeap → Prop) (ks : List KF) (ops : Array Oper) (env : AEnv) (A : AHeap) (ms : List AMark) : Option (AV × AHeap) :=
 open Classical in if adrawn ops ms ∨ X env A then ckn F ks (apromote (F.c.esc F.f) ops.toList env A).1 (apromote (F.c.esc F.f) ops.toList env A).2 else none
@[go_sem] theorem ct_nil {ops : Array Oper} {ms : List AMark} : ct F X ks ops i [] env A ms = ctE F X ks ops env A ms := by
  unfold ct ctE
  simp only [atrace, Option.bind_some]
  rw [List.append_nil]
structure BM where
 i : Nat
 u : Bool × Bool
 px : Option Nat
 tch : List Nat
 co : Bool
 cb : Bool
def adrawnB (ops : Array Oper) (ms : List BM) : Bool :=
 ms.all fun m => (ms.all fun m' => m.i == m'.i || !((m.co && m'.u.1) || (m.cb && m'.u.2)) || aord ops m.i m'.i) && (match m.px with
  | none => true
  | some s => ms.all fun m' => m'.i == m.i || aord ops m.i m'.i || !m'.tch.contains s)
inductive MLe : List AMark → List BM → Prop where
 | nil : MLe [] []
 | q {i u px tc ms bs ld cp} {A : AHeap} (h : MLe ms bs) : MLe (⟨i, u, px, tc, A.objs ≠ A.objs, A.bufs ≠ A.bufs, ld, cp⟩ :: ms) (⟨i, u, px, tc, false, false⟩ :: bs)
 | o {i u px tc ms bs ld cp} {o o' : List AObj} {b : List ABuf} (h : MLe ms bs) : MLe (⟨i, u, px, tc, o' ≠ o, b ≠ b, ld, cp⟩ :: ms) (⟨i, u, px, tc, true, false⟩ :: bs)
 | b {i u px tc ms bs ld cp} {b b' : List ABuf} {o : List AObj} (h : MLe ms bs) : MLe (⟨i, u, px, tc, o ≠ o, b' ≠ b, ld, cp⟩ :: ms) (⟨i, u, px, tc, false, true⟩ :: bs)
 | l {i u px tc ms bs ld cp} {p p' : Prop} (h : MLe ms bs) : MLe (⟨i, u, px, tc, p, p', ld, cp⟩ :: ms) (⟨i, u, px, tc, true, true⟩ :: bs)
theorem MLe.qq {i : Nat} {u : Bool × Bool} {px : Option Nat} {tc : List Nat} {ld : Option (Nat × Bool × AV)} {cp : Nat → Bool → AV → Prop} {ms : List AMark} {bs : List BM} {o : List AObj} {b : List ABuf} (h : MLe ms bs) : MLe (⟨i, u, px, tc, o ≠ o, b ≠ b, ld, cp⟩ :: ms) (⟨i, u, px, tc, false, false⟩ :: bs) :=
 MLe.q (A := ⟨o, b⟩) h
theorem MLe.mem {ms : List AMark} {bs : List BM} (h : MLe ms bs) : ∀ m ∈ ms, ∃ b ∈ bs, b.i = m.i ∧ b.u = m.u ∧ b.px = m.px ∧ b.tch = m.tch ∧ (m.co → b.co = true) ∧ (m.cb → b.cb = true) := by
 induction h with
 | nil => intro m hm; cases hm
 | q h ih =>
   intro m hm
   rcases List.mem_cons.1 hm with rfl | hm
   ·exact ⟨_, List.mem_cons_self .., rfl, rfl, rfl, rfl, fun x => absurd rfl x, fun x => absurd rfl x⟩
   ·obtain ⟨b, hb, hx⟩ := ih m hm; exact ⟨b, List.mem_cons_of_mem _ hb, hx⟩
 | o h ih =>
   intro m hm
   rcases List.mem_cons.1 hm with rfl | hm
   ·exact ⟨_, List.mem_cons_self .., rfl, rfl, rfl, rfl, fun _ => rfl, fun x => absurd rfl x⟩
   ·obtain ⟨b, hb, hx⟩ := ih m hm; exact ⟨b, List.mem_cons_of_mem _ hb, hx⟩
 | b h ih =>
   intro m hm
   rcases List.mem_cons.1 hm with rfl | hm
   ·exact ⟨_, List.mem_cons_self .., rfl, rfl, rfl, rfl, fun x => absurd rfl x, fun _ => rfl⟩
   ·obtain ⟨b, hb, hx⟩ := ih m hm; exact ⟨b, List.mem_cons_of_mem _ hb, hx⟩
 | l h ih =>
   intro m hm
   rcases List.mem_cons.1 hm with rfl | hm
   ·exact ⟨_, List.mem_cons_self .., rfl, rfl, rfl, rfl, fun _ => rfl, fun _ => rfl⟩
   ·obtain ⟨b, hb, hx⟩ := ih m hm; exact ⟨b, List.mem_cons_of_mem _ hb, hx⟩
theorem adrawn_of_B {ops : Array Oper} {ms : List AMark} {bs : List BM} (h : MLe ms bs) (hb : adrawnB ops bs = true) : adrawn ops ms := by
 simp only [adrawnB, List.all_eq_true, Bool.and_eq_true] at hb
 refine ⟨fun m hm m' hm' hne hx => ?_, fun m hm s hp m' hm' hne ht => ?_⟩
 ·simp only [Bool.or_eq_true, Bool.not_eq_true', beq_iff_eq] at hb
  obtain ⟨b, hb1, e1, e2, e3, _, e4, e5⟩ := h.mem m hm
  obtain ⟨b', hb1', e1', e2', e3', _, e4', e5'⟩ := h.mem m' hm'
  have := (hb b hb1).1 b' hb1'
  rw [e1, e1', e2'] at this
  rcases this with (hi | hn) | ho
  ·exact absurd hi hne
  ·exfalso
   rcases hx with ⟨hc, hu, _⟩ | ⟨hc, hu⟩
   ·rw [e4 hc, hu] at hn; simp at hn
   ·rw [e5 hc, hu] at hn; simp at hn
  ·exact ho
 ·obtain ⟨b, hb1, e1, e2, e3, _, e4, e5⟩ := h.mem m hm
  obtain ⟨b', hb1', e1', e2', e3', et, e4', e5'⟩ := h.mem m' hm'
  have := (hb b hb1).2
  rw [e3, hp] at this
  simp only [List.all_eq_true, Bool.or_eq_true, beq_iff_eq, Bool.not_eq_true'] at this
  have := this b' hb1'
  rw [e1, e1', et] at this
  rcases this with (h3 | h3) | h3
  ·exact absurd h3 hne
  ·exact h3
  ·rw [List.contains_iff_mem.2 ht] at h3
   cases h3
theorem ctE_ok {ops : List Oper} {ms : List AMark} {bs : List BM} (h : MLe ms bs) (hb : adrawnB ops.toArray bs = true) :
  ctE F X ks ops.toArray env A ms = ckn F ks (apromote (F.c.esc F.f) ops env A).1 (apromote (F.c.esc F.f) ops env A).2 := by
 unfold ctE
 rw [if_pos (.inl (adrawn_of_B h hb))]
def adrawnF (free : List Nat) (ops : Array Oper) (ms : List BM) : Bool :=
 ms.all fun m => (ms.all fun m' => m.i == m'.i || !((m.co && m'.u.1 && !free.contains m'.i) || (m.cb && m'.u.2)) || aord ops m.i m'.i) && (match m.px with
  | none => true
  | some s => ms.all fun m' => m'.i == m.i || aord ops m.i m'.i || !m'.tch.contains s)
theorem adrawn_of_F {free : List Nat} {ops : Array Oper} {ms : List AMark} {bs : List BM} (h : MLe ms bs) (hf : ∀ m' ∈ ms, free.contains m'.i = true → ∃ n agg p, m'.ld = some (n, agg, p) ∧ ∀ m ∈ ms, ¬ m.cp n agg p) (hb : adrawnF free ops bs = true) : adrawn ops ms := by
 simp only [adrawnF, List.all_eq_true, Bool.and_eq_true] at hb
 refine ⟨fun m hm m' hm' hne hx => ?_, fun m hm s hp m' hm' hne ht => ?_⟩
 ·simp only [Bool.or_eq_true, Bool.not_eq_true', beq_iff_eq] at hb
  obtain ⟨b, hb1, e1, e2, e3, _, e4, e5⟩ := h.mem m hm
  obtain ⟨b', hb1', e1', e2', e3', _, e4', e5'⟩ := h.mem m' hm'
  have := (hb b hb1).1 b' hb1'
  rw [e1, e1', e2'] at this
  rcases this with (hi | hn) | ho
  ·exact absurd hi hne
  ·exfalso
   rcases hx with ⟨hc, hu, hp⟩ | ⟨hc, hu⟩
   ·cases hfr : free.contains m'.i with
    | true =>
      obtain ⟨n, agg, p, h1, h2⟩ := hf m' hm' hfr
      exact h2 m hm (hp n agg p h1)
    | false => rw [e4 hc, hu, hfr] at hn; simp at hn
   ·rw [e5 hc, hu] at hn; simp at hn
  ·exact ho
 ·obtain ⟨b, hb1, e1, e2, e3, _, e4, e5⟩ := h.mem m hm
  obtain ⟨b', hb1', e1', e2', e3', et, e4', e5'⟩ := h.mem m' hm'
  have := (hb b hb1).2
  rw [e3, hp] at this
  simp only [List.all_eq_true, Bool.or_eq_true, beq_iff_eq, Bool.not_eq_true'] at this
  have := this b' hb1'
  rw [e1, e1', et] at this
  rcases this with (h3 | h3) | h3
  ·exact absurd h3 hne
  ·exact h3
  ·rw [List.contains_iff_mem.2 ht] at h3
   cases h3
theorem ctE_free {free : List Nat} {ops : List Oper} {ms : List AMark} {bs : List BM} (h : MLe ms bs) (hf : ∀ m' ∈ ms, free.contains m'.i = true → ∃ n agg p, m'.ld = some (n, agg, p) ∧ ∀ m ∈ ms, ¬ m.cp n agg p) (hb : adrawnF free ops.toArray bs = true) :
  ctE F X ks ops.toArray env A ms = ckn F ks (apromote (F.c.esc F.f) ops env A).1 (apromote (F.c.esc F.f) ops env A).2 := by
 unfold ctE
 rw [if_pos (.inl (adrawn_of_F h hf hb))]
theorem List.take_modify_front {α : Type} (f : α → α) : ∀ (l m : List α), ((l ++ m).modify l.length f).take l.length = l
 | [], m => by simp
 | x :: l, m => by simp [List.modify_succ_cons, List.take_modify_front f l m]
theorem alen_grow {e sz : Nat} {rows : List (List Dat)} : alen A' 2 (agrow A e sz rows).1 = some rows.length := by
 unfold agrow
 split
 ·rename_i h; subst h; rfl
 ·rfl
theorem one_grow {e sz : Nat} {rows : List (List Dat)} : (agrow A e sz rows).1.one = true := by
 unfold agrow
 split <;> rfl
@[go_sem low] theorem asv2_pair {p : AV × AHeap} : asv2 (some p) = some (.v p.1, p.2) := by rfl
theorem k_call_own {fn : Func} {code : Code} {args : List AV} (hg : c.ext f = none) (hf : c.P.funcs[f]? = some fn) (hb : fn.body = some code) (hk : fnOk c.P f = true) (ho : c.own f = true) (hnt : fn.ntmps = nt) {ra : Array ResultVar} (hrs : fn.results = ra)
  (hn : args.length ≤ nt) : acl c f args A = cek ⟨c, f, nt, ra.toList, A⟩ [] code (aenter 0 args) A := by
 subst hnt; subst hrs
 rw [acl_eq hg hf hb hk hn]
 simp only [ho, if_true]
 unfold cek afinK afinR aplug
 congr 1
end
section
variable {X : AEnv → AHeap → Prop}
variable {c : ACtx} {call : FuncId → AFun} {f nt : Nat} {env e : AEnv} {A A0 A' : AHeap} {rs : List ResultVar} {F : AF} {ks : List KF} {P : Program}
variable {d s t u i j n off id : Nat} {x y z : Operand} {v w : AV} {ty : TypeId} {g b : Bool} {vs : List AV}
def gv (b : Bool) (v : AV) : AV := if b = true then v else .tuple []
def gs (b : Bool) (s : Slot) : Slot := if b = true then s else .v (.tuple [])
def agu (b : Bool) (A : AHeap) (r : Option (Slot × AHeap)) : Option (Slot × AHeap) := if b = true then r else some (.v (.tuple []), A)
@[congr] theorem agu_congr {r r' : Option (Slot × AHeap)} (h : b = g) (h' : r = r') : agu b A r = agu g A r' := by rw [h, h']
@[go_sem high] theorem asel_gu {r : Option (Slot × AHeap)} : asel (some b) r (some (.v (.tuple []), A)) = agu b A r := by rfl
@[go_sem] theorem agu_true {r : Option (Slot × AHeap)} : agu true A r = r := by rfl
@[go_sem] theorem agu_false {r : Option (Slot × AHeap)} : agu false A r = some (.v (.tuple []), A) := by rfl
@[go_sem low] theorem agu_some {s : Slot} : agu b A (some (s, A)) = some (gs b s, A) := by cases b <;> rfl
@[go_sem] theorem gs_v : gs b (.v v) = .v (gv b v) := by cases b <;> rfl
@[go_sem] theorem gv_true : gv true v = v := by rfl
def Imp (g b : Bool) : Prop := g = true → b = true
@[go_sem] theorem imp_refl : Imp b b = True := by simp [Imp]
@[go_sem] theorem imp_left {q : Bool} (h : Imp g b) : Imp (g && q) b = True := by
  simp only [Imp, eq_iff_iff, iff_true]
  intro hq
  simp only [Bool.and_eq_true] at hq
  exact h hq.1
theorem Imp.gv (h : Imp g b) (hg : g = true) : gv b v = v := by rw [h hg]; rfl
theorem Imp.gs {s : Slot} (h : Imp g b) (hg : g = true) : gs b s = s := by rw [h hg]; rfl
theorem agu_in {r r' : Option (Slot × AHeap)} (h : g = true → r = r') : agu g A r = agu g A r' := by
 cases g
 ·rfl
 ·exact h rfl
@[go_sem] theorem gv_gv (h : Imp g b) : gv g (gv b v) = gv g v := by
  cases g
  ·rfl
  ·rw [h.gv rfl]
@[go_sem] theorem agt_gv {q w : Bool} : agt (gv b (.d (.bool q))) w = some (b && (q == w)) := by cases b <;> rfl
@[go_sem] theorem st_bin3 {op : BinOp} (h : Imp g b) : agu g A (asv A (abin P op t (gv b v) w)) = agu g A (asv A (abin P op t v w)) := agu_in fun hg => by rw [h.gv hg]
@[go_sem] theorem st_bin4 {op : BinOp} (h : Imp g b) : agu g A (asv A (abin P op t w (gv b v))) = agu g A (asv A (abin P op t w v)) := agu_in fun hg => by rw [h.gv hg]
@[go_sem] theorem st_un {op : UnOp} (h : Imp g b) : agu g A (asv A (aun op (gv b v))) = agu g A (asv A (aun op v)) := agu_in fun hg => by rw [h.gv hg]
@[go_sem] theorem st_conv (h : Imp g b) : agu g A (asv A (aconv P s t (gv b v))) = agu g A (asv A (aconv P s t v)) := agu_in fun hg => by rw [h.gv hg]
@[go_sem] theorem st_load {agg : Bool} (h : Imp g b) : agu g A (asv A (aload A n agg (gv b v))) = agu g A (asv A (aload A n agg v)) := agu_in fun hg => by rw [h.gv hg]
@[go_sem] theorem st_loadP {agg : Bool} {s : Slot} (h : Imp g b) : agu g A (asv A (aloadK env A n agg x (aplaceS t (some (gs b s))))) = agu g A (asv A (aloadK env A n agg x (aplaceS t (some s)))) := agu_in fun hg => by rw [h.gs hg]
@[go_sem] theorem st_pick1 {o o' : Option AV} (h : Imp g b) : agu g A (asv A (apickR (some (gv b v)) o o')) = agu g A (asv A (apickR (some v) o o')) := agu_in fun hg => by rw [h.gv hg]
@[go_sem] theorem st_pickA' {q : Bool} (h : Imp (g && q) b) : agu g A (some (.v (if q = true then gv b v else w), A)) = agu g A (some (.v (if q = true then v else w), A)) := agu_in fun hg => by
  cases q
  ·rfl
  ·rw [h.gv (by rw [hg]; rfl)]
@[go_sem] theorem st_pickB' {q : Bool} (h : Imp (g && !q) b) : agu g A (some (.v (if q = true then w else gv b v), A)) = agu g A (some (.v (if q = true then w else v), A)) := agu_in fun hg => by
  cases q
  ·rw [h.gv (by rw [hg]; rfl)]
  ·rfl
@[go_sem] theorem pick_gv1 {q : Bool} (h : Imp q b) : (if q = true then gv b v else w) = if q = true then v else w := by
  cases q
  ·rfl
  ·rw [if_pos rfl, if_pos rfl, h.gv rfl]
@[go_sem] theorem pick_gv2 {q : Bool} (h : Imp (!q) b) : (if q = true then w else gv b v) = if q = true then w else v := by
  cases q
  ·exact h.gv rfl
  ·rfl
@[go_sem] theorem st_callf {h : FuncId} (hi : Imp g b) : agu g A (asv2 (call h (gv b v :: vs) A)) = agu g A (asv2 (call h (v :: vs) A)) := agu_in fun hg => by rw [hi.gv hg]
@[go_sem] theorem st_callf2 {h : FuncId} (hi : Imp g b) : agu g A (asv2 (call h (w :: gv b v :: vs) A)) = agu g A (asv2 (call h (w :: v :: vs) A)) := agu_in fun hg => by rw [hi.gv hg]
@[go_sem] theorem st_len (hi : Imp g b) : agu g A (asv2 ((alen A n (gv b v)).map fun (m : Nat) => (.d (.int .i64 (m : Int)), A))) = agu g A (asv2 ((alen A n v).map fun (m : Nat) => (.d (.int .i64 (m : Int)), A))) := agu_in fun hg => by rw [hi.gv hg]
@[go_sem] theorem st_idx1 {o : Option AV} (hi : Imp g b) : agu g A (asv A (aidxG c t (some (gv b v)) o)) = agu g A (asv A (aidxG c t (some v) o)) := agu_in fun hg => by rw [hi.gv hg]
@[go_sem] theorem st_idx2 {o : Option AV} (hi : Imp g b) : agu g A (asv A (aidxG c t o (some (gv b v)))) = agu g A (asv A (aidxG c t o (some v))) := agu_in fun hg => by rw [hi.gv hg]
@[go_sem] theorem st_ia3 {m : Int} (hi : Imp g b) : agu g A (asv A (aindex n A m (gv b v))) = agu g A (asv A (aindex n A m v)) := agu_in fun hg => by rw [hi.gv hg]
end
section
variable {c : ACtx} {px : FuncId → List AV → AHeap → AV → AHeap → Prop}
def PanNo (c : ACtx) : PN → AHeap → Prop
 | .fn f args, A => acl c f args A = none
 | .code f nt code env, A => ax c f nt code env A = none
 | .rnd f nt n b env, A => ax c f nt (.loop b) env A = none
 | .ops f nt ops l env, A => aops c (acl c) f nt ops l env A = none
 | .call env o, A => ∀ (c' : ACtx) (f nt : Nat), aop c' (acl c) f nt o env A = none
theorem atrace_app {call : FuncId → AFun} {f nt : Nat} {ops : Array Oper} {o : Oper} {post : List Oper} : ∀ (pre : List Oper) {i : Nat} {env : AEnv} {A : AHeap} {e1 : AEnv} {A1 : AHeap} {ms : List AMark},
  atrace c call f nt ops i pre env A = some ((e1, A1), ms) → aguard ops e1 o = some true → aop c call f nt o e1 A1 = none → atrace c call f nt ops i (pre ++ o :: post) env A = none
 | [], i, env, A, e1, A1, ms, h, hg, hn => by
   simp only [atrace] at h
   cases h
   simp only [List.nil_append, atrace, hg, Option.bind_some, if_true, hn, Option.bind_none]
 | p :: pre, i, env, A, e1, A1, ms, h, hg, hn => by
   simp only [atrace, Option.bind_eq_some_iff] at h
   obtain ⟨b, hb, h⟩ := h
   simp only [List.cons_append, atrace, hb, Option.bind_some]
   cases b with
   | true =>
     simp only [if_true, Option.bind_eq_some_iff, Option.map_eq_some_iff] at h ⊢
     obtain ⟨r, hr, ⟨s1, ms2⟩, hs, h⟩ := h
     simp only [Option.some.injEq, Prod.mk.injEq] at h
     obtain ⟨h, _⟩ := h
     subst h
     rw [hr, Option.bind_some, atrace_app pre hs hg hn]
     rfl
   | false =>
     simp only [Bool.false_eq_true, if_false, Option.bind_eq_some_iff, Option.map_eq_some_iff] at h ⊢
     obtain ⟨e, he, ⟨s1, ms2⟩, hs, h⟩ := h
     simp only [Option.some.injEq, Prod.mk.injEq] at h
     obtain ⟨h, _⟩ := h
     subst h
     rw [he, Option.bind_some, atrace_app pre hs hg hn]
     rfl
theorem pan_no (hpx : ∀ f args A x A', px f args A x A' → acl c f args A = none) {n : PN} {A : AHeap} {x : AV} {A' : AHeap} (h : Pan c px n A x A') : PanNo c n A := by
 have callno : ∀ {env : AEnv} {o : Oper} {A : AHeap} {gop : Operand} {as : Array Operand} {ts : Array TypeId} {g : FuncId} {first captured args : List AV}, o.op = .call ⟨.value gop, as, ts⟩ → aeval env gop = some (.func (.func g) first captured) → aevals env as.toList = some args →
   acl c g (first ++ args ++ captured) A = none → PanNo c (.call env o) A := by
  intro env o A gop as ts g first captured args h1 h2 h3 h4 c' f nt
  unfold aop aeff
  simp only [h1, aslot, aval1, h2, h3, h4, Option.map_none, Option.bind_none]
 induction h with
 | ext h => exact hpx _ _ _ _ _ h
 | @body f args A x A' fn code args1 A1 A2 y h1 h2 h3 h4 h5 h7 h8 h9 ih =>
   have ih : ax c f fn.ntmps code (aenter 0 args1) A1 = none := ih
   change acl c f args A = none
   rw [acl_eq h1 h2 h3 h4 h5]
   simp only [h7, ih, Option.bind_none]
 | seq1 h ih =>
   change ax _ _ _ _ _ _ = none
   rw [ax_seq, show ax _ _ _ _ _ _ = none from ih]
   rfl
 | seq2 h1 h ih =>
   change ax _ _ _ _ _ _ = none
   rw [ax_seq, h1]
   exact ih
 | condT h1 h ih =>
   change ax _ _ _ _ _ _ = none
   rw [ax_cond h1, if_pos rfl]
   exact ih
 | condF h1 h ih =>
   change ax _ _ _ _ _ _ = none
   rw [ax_cond h1, if_neg (by simp)]
   exact ih
 | block h ih =>
   change ax _ _ _ _ _ _ = none
   rw [ax_block, show ax _ _ _ _ _ _ = none from ih]
   rfl
 | loop h ih => exact ih
 | rnd1 h ih =>
   change ax _ _ _ _ _ _ = none
   rw [ax_loop, show ax _ _ _ _ _ _ = none from ih]
   rfl
 | rnd2 h1 h ih =>
   change ax _ _ _ _ _ _ = none
   rw [ax_loop, h1]
   exact ih
 | region h ih =>
   change ax _ _ _ _ _ _ = none
   rw [ax_region]
   unfold aregion
   simp only [Bool.false_eq_true, if_false]
   rw [show aops _ _ _ _ _ _ _ _ = none from ih]
   rfl
 | here h1 h ih =>
   change aops _ _ _ _ _ _ _ _ = none
   simp only [aops, astep, h1, Option.bind_some, if_true]
   rw [ih]
   rfl
 | next h1 h ih =>
   change aops _ _ _ _ _ _ _ _ = none
   simp only [aops, h1, Option.bind_some]
   exact ih
 | call h1 h2 h3 h ih => exact callno h1 h2 h3 ih
 | @drawn f nt id ops pre o post env A x A' e1 A1 ms gop as ts g first captured args h1 h2 h3 h4 h5 h6 h7 h ih =>
   change ax _ _ _ _ _ _ = none
   rw [ax_region]
   unfold aregion
   simp only [if_true]
   rw [h1, atrace_app pre h2 h3 (callno h5 h6 h7 ih _ _ _)]
   rfl
end
abbrev PR := AV → AHeap → Prop
abbrev PXF := FuncId → List AV → AHeap → AV → AHeap → Prop
def pcl (c : ACtx) (px : PXF) (f : FuncId) (args : List AV) (A : AHeap) (R : PR) : Prop := ∃ x A', Pan c px (.fn f args) A x A' ∧ R x A'
structure PF where
 F : AF
 px : PXF
 R : PR
def PF.post (p : PF) : PR := fun x A => p.R (afinish p.F.c p.F.f p.F.A0 x A).1 (afinish p.F.c p.F.f p.F.A0 x A).2
section
variable {c : ACtx} {px : PXF} {f nt : Nat} {env e : AEnv} {A A0 A1 : AHeap} {p : PF} {ks : List KF} {x y : Code} {R R' : PR} {g : FuncId} {args : List AV}
theorem pcl_no (hpx : ∀ f args A x A', px f args A x A' → acl c f args A = none) (h : pcl c px f args A R) : acl c f args A = none := by
 obtain ⟨x, B, h1, _⟩ := h
 exact pan_no hpx h1
def pks (c : ACtx) (px : PXF) (f nt : Nat) : List KF → ARes → AV → AHeap → Prop
 | [], _, _, _ => False
 | .seq y :: ks, r, x, A' => (∃ e1 A1, r = some (.normal, e1, A1) ∧ Pan c px (.code f nt y e1) A1 x A') ∨ pks c px f nt ks (axK c f nt y r) x A'
 | .block id :: ks, r, x, A' => pks c px f nt ks (ablockK id r) x A'
 | .loop b :: ks, r, x, A' => (∃ e1 A1, r = some (.normal, e1, A1) ∧ Pan c px (.code f nt (.loop b) e1) A1 x A') ∨ pks c px f nt ks (aloopK c f nt b r) x A'
def pek (p : PF) (ks : List KF) (code : Code) (env : AEnv) (A : AHeap) : Prop :=
 ∃ x A', (Pan p.F.c p.px (.code p.F.f p.F.nt code env) A x A' ∨ pks p.F.c p.px p.F.f p.F.nt ks (ax p.F.c p.F.f p.F.nt code env A) x A') ∧ p.post x A'
def pkr (p : PF) (ks : List KF) (r : ARes) : Prop := ∃ x A', pks p.F.c p.px p.F.f p.F.nt ks r x A' ∧ p.post x A'
def pkn (p : PF) (ks : List KF) (env : AEnv) (A : AHeap) : Prop := pkr p ks (some (.normal, env, A))
def pkx (p : PF) (id : Nat) (ks : List KF) (env : AEnv) (A : AHeap) : Prop := pkr p ks (some (.exit id, env, A))
@[congr] theorem pek_congr {e' : AEnv} {A' : AHeap} (h : env = e') (h' : A = A') : pek p ks x env A = pek p ks x e' A' := by rw [h, h']
@[congr] theorem pkn_congr {e' : AEnv} {A' : AHeap} (h : env = e') (h' : A = A') : pkn p ks env A = pkn p ks e' A' := by rw [h, h']
theorem pks_none : ∀ (ks : List KF) {x : AV} {A' : AHeap}, ¬ pks c px f nt ks none x A'
 | [], _, _, h => h
 | .seq y :: ks, _, _, h => by
   rcases h with ⟨_, _, h, _⟩ | h
   ·cases h
   ·exact pks_none ks h
 | .block id :: ks, _, _, h => pks_none ks h
 | .loop b :: ks, _, _, h => by
   rcases h with ⟨_, _, h, _⟩ | h
   ·cases h
   ·exact pks_none ks h
@[go_sem] theorem p_seq : pek p ks (.seq x y) env A = pek p (.seq y :: ks) x env A := by
  apply propext
  unfold pek
  constructor
  ·rintro ⟨v, B, h, hs⟩
   refine ⟨v, B, ?_, hs⟩
   rcases h with h | h
   ·cases h with
    | seq1 h => exact .inl h
    | seq2 h1 h => exact .inr (.inl ⟨_, _, h1, h⟩)
   ·rw [ax_seq] at h
    exact .inr (.inr h)
  ·rintro ⟨v, B, h, hs⟩
   refine ⟨v, B, ?_, hs⟩
   rcases h with h | ⟨e1, A1, h1, h⟩ | h
   ·exact .inl (.seq1 h)
   ·exact .inl (.seq2 h1 h)
   ·rw [ax_seq]
    exact .inr h
@[go_sem] theorem p_block {id : Nat} : pek p ks (.block id x) env A = pek p (.block id :: ks) x env A := by
  apply propext
  unfold pek
  constructor
  ·rintro ⟨v, B, h, hs⟩
   refine ⟨v, B, ?_, hs⟩
   rcases h with h | h
   ·cases h with
    | block h => exact .inl h
   ·rw [ax_block] at h
    exact .inr h
  ·rintro ⟨v, B, h, hs⟩
   refine ⟨v, B, ?_, hs⟩
   rcases h with h | h
   ·exact .inl (.block h)
   ·rw [ax_block]
    exact .inr h
theorem p_loop : pek p ks (.loop x) env A = pek p (.loop x :: ks) x (atrim p.F.c p.F.f (firstRegion x) env) A := by
 apply propext
 unfold pek
 constructor
 ·rintro ⟨v, B, h, hs⟩
  refine ⟨v, B, ?_, hs⟩
  rcases h with h | h
  ·cases h with
   | loop h =>
     cases h with
     | rnd1 h => exact .inl h
     | rnd2 h1 h => exact .inr (.inl ⟨_, _, h1, .loop h⟩)
  ·rw [ax_loop] at h
   exact .inr (.inr h)
 ·rintro ⟨v, B, h, hs⟩
  refine ⟨v, B, ?_, hs⟩
  rcases h with h | ⟨e1, A1, h1, h⟩ | h
  ·exact .inl (.loop (n := 1) (.rnd1 h))
  ·cases h with
   | loop h => exact .inl (.loop (.rnd2 h1 h))
  ·rw [ax_loop]
   exact .inr h
@[go_sem] theorem p_skip : pek p ks .skip env A = pkn p ks env A := by
  apply propext
  unfold pek pkn pkr
  rw [ax_skip]
  constructor
  ·rintro ⟨v, B, h | h, hs⟩
   ·cases h
   ·exact ⟨v, B, h, hs⟩
  ·rintro ⟨v, B, h, hs⟩
   exact ⟨v, B, .inr h, hs⟩
@[go_sem] theorem p_exit {id : Nat} : pek p ks (.exit id) env A = pkx p id ks env A := by
  apply propext
  unfold pek pkx pkr
  rw [ax_exit]
  constructor
  ·rintro ⟨v, B, h | h, hs⟩
   ·cases h
   ·exact ⟨v, B, h, hs⟩
  ·rintro ⟨v, B, h, hs⟩
   exact ⟨v, B, .inr h, hs⟩
@[go_sem] theorem pn_seq : pkn p (.seq y :: ks) env A = pek p ks y env A := by
  apply propext
  unfold pek pkn pkr
  constructor
  ·rintro ⟨v, B, ⟨e1, A1, h1, h⟩ | h, hs⟩
   ·cases h1; exact ⟨v, B, .inl h, hs⟩
   ·exact ⟨v, B, .inr h, hs⟩
  ·rintro ⟨v, B, h | h, hs⟩
   ·exact ⟨v, B, .inl ⟨_, _, rfl, h⟩, hs⟩
   ·exact ⟨v, B, .inr h, hs⟩
@[go_sem] theorem pn_block {id : Nat} : pkn p (.block id :: ks) env A = pkn p ks env A := by rfl
@[go_sem] theorem pn_loop : pkn p (.loop x :: ks) env A = pek p ks (.loop x) env A := by
  apply propext
  unfold pek pkn pkr
  constructor
  ·rintro ⟨v, B, ⟨e1, A1, h1, h⟩ | h, hs⟩
   ·cases h1; exact ⟨v, B, .inl h, hs⟩
   ·exact ⟨v, B, .inr h, hs⟩
  ·rintro ⟨v, B, h | h, hs⟩
   ·exact ⟨v, B, .inl ⟨_, _, rfl, h⟩, hs⟩
   ·exact ⟨v, B, .inr h, hs⟩
theorem pkr_skip {ex : AEx} {k : KF} {r : ARes} (h : ∀ x A', pks p.F.c p.px p.F.f p.F.nt (k :: ks) (some (ex, env, A)) x A' ↔ pks p.F.c p.px p.F.f p.F.nt ks r x A') : pkr p (k :: ks) (some (ex, env, A)) = pkr p ks r := by
 apply propext
 unfold pkr
 constructor
 ·rintro ⟨v, B, h1, hs⟩; exact ⟨v, B, (h _ _).1 h1, hs⟩
 ·rintro ⟨v, B, h1, hs⟩; exact ⟨v, B, (h _ _).2 h1, hs⟩
@[go_sem] theorem px_seq {id : Nat} : pkx p id (.seq y :: ks) env A = pkx p id ks env A :=
  pkr_skip fun x A' => ⟨fun h => by
   rcases h with ⟨_, _, h, _⟩ | h
   ·cases h
   ·exact h, fun h => .inr h⟩
@[go_sem] theorem px_loop {id : Nat} : pkx p id (.loop x :: ks) env A = pkx p id ks env A :=
  pkr_skip fun x A' => ⟨fun h => by
   rcases h with ⟨_, _, h, _⟩ | h
   ·cases h
   ·exact h, fun h => .inr h⟩
@[go_sem] theorem px_block {id : Nat} : pkx p id (.block id :: ks) env A = pkn p ks env A :=
  pkr_skip fun x A' => by
   have : ablockK id (some (.exit id, env, A)) = some (.normal, env, A) := by simp [ablockK]
   simp only [pks, this]
def pcondK (x : Option AV) (t e : Prop) : Prop := match x with
 | some (.d (.bool b)) => if b = true then t else e
 | _ => False
@[congr] theorem pcondK_congr {x x' : Option AV} {t e : Prop} (h : x = x') : pcondK x t e = pcondK x' t e := by rw [h]
@[go_sem] theorem pcondK_true {t e : Prop} : pcondK (some (.d (.bool true))) t e = t := by simp [pcondK]
@[go_sem] theorem pcondK_false {t e : Prop} : pcondK (some (.d (.bool false))) t e = e := by simp [pcondK]
@[go_sem] theorem p_cond {v : Operand} : pek p ks (.cond v x y) env A = pcondK (aeval env v) (pek p ks x env A) (pek p ks y env A) := by
  apply propext
  by_cases h : ∃ b, aeval env v = some (.d (.bool b))
  ·obtain ⟨b, hb⟩ := h
   rw [hb]
   cases b with
   | true =>
     rw [pcondK_true]
     unfold pek
     rw [ax_cond hb, if_pos rfl]
     constructor
     ·rintro ⟨w, B, h | h, hs⟩
      ·cases h with
       | condT h1 h => exact ⟨w, B, .inl h, hs⟩
       | condF h1 h => rw [hb] at h1; cases h1
      ·exact ⟨w, B, .inr h, hs⟩
     ·rintro ⟨w, B, h | h, hs⟩
      ·exact ⟨w, B, .inl (.condT hb h), hs⟩
      ·exact ⟨w, B, .inr h, hs⟩
   | false =>
     rw [pcondK_false]
     unfold pek
     rw [ax_cond hb, if_neg (by simp)]
     constructor
     ·rintro ⟨w, B, h | h, hs⟩
      ·cases h with
       | condT h1 h => rw [hb] at h1; cases h1
       | condF h1 h => exact ⟨w, B, .inl h, hs⟩
      ·exact ⟨w, B, .inr h, hs⟩
     ·rintro ⟨w, B, h | h, hs⟩
      ·exact ⟨w, B, .inl (.condF hb h), hs⟩
      ·exact ⟨w, B, .inr h, hs⟩
  ·have h2 : pcondK (aeval env v) (pek p ks x env A) (pek p ks y env A) = False := by
    unfold pcondK
    split
    ·rename_i b hb; exact absurd ⟨b, hb⟩ h
    ·rfl
   rw [h2]
   constructor
   ·rintro ⟨w, B, h3 | h3, hs⟩
    ·cases h3 with
     | condT h1 _ => exact h ⟨_, h1⟩
     | condF h1 _ => exact h ⟨_, h1⟩
    ·rw [ax_cond_eq] at h3
     have : acondK (aeval env v) (ax p.F.c p.F.f p.F.nt x env A) (ax p.F.c p.F.f p.F.nt y env A) = none := by
      unfold acondK
      split
      ·rename_i b hb; exact absurd ⟨b, hb⟩ h
      ·rfl
     rw [this] at h3
     exact pks_none ks h3
   ·exact fun h => h.elim
def pops (p : PF) (ks : List KF) (ops : Array Oper) (rest : List Oper) (env : AEnv) (A : AHeap) : Prop :=
 ∃ x A', (Pan p.F.c p.px (.ops p.F.f p.F.nt ops rest env) A x A' ∨ pks p.F.c p.px p.F.f p.F.nt ks ((aops p.F.c (acl p.F.c) p.F.f p.F.nt ops rest env A).map fun r => (.normal, r.1, r.2)) x A') ∧ p.post x A'
@[congr] theorem pops_congr {ops : Array Oper} {rest : List Oper} {e' : AEnv} {A' : AHeap} (h : env = e') (h' : A = A') : pops p ks ops rest env A = pops p ks ops rest e' A' := by rw [h, h']
def pput (p : PF) (ks : List KF) (ops : Array Oper) (rest : List Oper) (z : Option (AEnv × AHeap)) : Prop := match z with
 | some r => pops p ks ops rest r.1 r.2
 | none => False
@[congr] theorem pput_congr {ops : Array Oper} {rest : List Oper} {z z' : Option (AEnv × AHeap)} (h : z = z') : pput p ks ops rest z = pput p ks ops rest z' := by rw [h]
@[go_sem] theorem pput_some {ops : Array Oper} {rest : List Oper} : pput p ks ops rest (some (e, A)) = pops p ks ops rest e A := by rfl
@[go_sem] theorem p_region {id : Nat} {l : List Oper} : pek p ks (.region id l.toArray false) env A = pops p ks l.toArray l (atrim p.F.c p.F.f (some id) env) A := by
  apply propext
  unfold pek pops
  rw [ax_region]
  constructor
  ·rintro ⟨v, B, h | h, hs⟩
   ·cases h with
    | region h => exact ⟨v, B, .inl (by simpa using h), hs⟩
   ·exact ⟨v, B, .inr h, hs⟩
  ·rintro ⟨v, B, h | h, hs⟩
   ·exact ⟨v, B, .inl (.region (by simpa using h)), hs⟩
   ·exact ⟨v, B, .inr h, hs⟩
@[go_sem] theorem po_nil {ops : Array Oper} : pops p ks ops [] env A = pkn p ks env A := by
  apply propext
  unfold pops pkn pkr
  constructor
  ·rintro ⟨v, B, h | h, hs⟩
   ·cases h
   ·exact ⟨v, B, h, hs⟩
  ·rintro ⟨v, B, h, hs⟩
   exact ⟨v, B, .inr h, hs⟩
def isCall : Op → Bool
 | .call ⟨.value _, _, _⟩ => true
 | _ => false
section
variable {x y z : Operand} {t u s : TypeId} {i n : Nat}
@[go_sem] theorem ic_move : isCall (.move x) = false := by rfl
@[go_sem] theorem ic_assign : isCall (.assign x) = false := by rfl
@[go_sem] theorem ic_pick : isCall (.pick x y z) = false := by rfl
@[go_sem] theorem ic_build {ps} : isCall (.build t ps) = false := by rfl
@[go_sem] theorem ic_buildSlice {ps} : isCall (.buildSlice t n ps) = false := by rfl
@[go_sem] theorem ic_load : isCall (.load t x) = false := by rfl
@[go_sem] theorem ic_store : isCall (.store t x y) = false := by rfl
@[go_sem] theorem ic_alloc : isCall (.alloc t) = false := by rfl
@[go_sem] theorem ic_box : isCall (.box t x) = false := by rfl
@[go_sem] theorem ic_nilCheck : isCall (.nilCheck x) = false := by rfl
@[go_sem] theorem ic_binOp {op} : isCall (.binOp op t x y u) = false := by rfl
@[go_sem] theorem ic_unOp {op} : isCall (.unOp op t x) = false := by rfl
@[go_sem] theorem ic_convert : isCall (.convert s t x) = false := by rfl
@[go_sem] theorem ic_fieldAddr : isCall (.fieldAddr t x i) = false := by rfl
@[go_sem] theorem ic_indexAddr : isCall (.indexAddr t x y) = false := by rfl
@[go_sem] theorem ic_lookup {b} : isCall (.lookup t x y b) = false := by rfl
@[go_sem] theorem ic_extract : isCall (.extract x i) = false := by rfl
@[go_sem] theorem ic_builtin {b as ts} : isCall (.call ⟨.builtin b, as, ts⟩) = false := by rfl
end
theorem aops_cons {call : FuncId → AFun} {ops : Array Oper} {o : Oper} {rest : List Oper} : aops c call f nt ops (o :: rest) env A = (astep c call f nt ops o env A).bind fun r => aops c call f nt ops rest r.1 r.2 := by rfl
theorem po_or {ops : Array Oper} {o : Oper} {rest : List Oper} : pops p ks ops (o :: rest) env A ↔ ((aguard ops env o = some true ∧ ∃ x A', Pan p.F.c p.px (.call env o) A x A' ∧ p.post x A') ∨ pput p ks ops rest (astep p.F.c (acl p.F.c) p.F.f p.F.nt ops o env A)) := by
 constructor
 ·rintro ⟨v, B, h | h, hs⟩
  ·cases h with
   | here h1 h => exact .inl ⟨h1, v, B, h, hs⟩
   | next h1 h => rw [h1]; exact .inr ⟨v, B, .inl h, hs⟩
  ·rw [aops_cons] at h
   cases hz : astep p.F.c (acl p.F.c) p.F.f p.F.nt ops o env A with
   | none => rw [hz] at h; exact absurd h (pks_none ks)
   | some r =>
     rw [hz] at h
     exact .inr ⟨v, B, .inr h, hs⟩
 ·rintro (⟨h1, v, B, h, hs⟩ | h)
  ·exact ⟨v, B, .inl (.here h1 h), hs⟩
  ·cases hz : astep p.F.c (acl p.F.c) p.F.f p.F.nt ops o env A with
   | none => rw [hz] at h; exact h.elim
   | some r =>
     rw [hz] at h
     obtain ⟨v, B, h | h, hs⟩ := h
     ·exact ⟨v, B, .inl (.next hz h), hs⟩
     ·exact ⟨v, B, .inr (by rw [aops_cons, hz]; exact h), hs⟩
@[go_sem low] theorem po_slot {ops : Array Oper} {dst : Option Tmp} {op : Op} {ty : TypeId} {pos : String} {after : Array Edge} {gd : Option (Nat × Bool)} {rest : List Oper} (h : isCall op = false) :
  pops p ks ops (⟨dst, op, ty, pos, after, gd⟩ :: rest) env A = pput p ks ops rest (astep p.F.c (acl p.F.c) p.F.f p.F.nt ops ⟨dst, op, ty, pos, after, gd⟩ env A) := by
  apply propext
  rw [po_or]
  constructor
  ·rintro (⟨_, v, B, h1, _⟩ | h1)
   ·cases h1 with
    | call k1 _ _ _ =>
      simp only at k1
      rw [k1] at h
      cases h
   ·exact h1
  ·exact .inr
def pcallS (r : Option (AV × AHeap)) (k : AV → AHeap → Prop) (q : Prop) : Prop := match r with
 | some r => k r.1 r.2
 | none => q
@[congr] theorem pcallS_congr {r r' : Option (AV × AHeap)} {k : AV → AHeap → Prop} {q : Prop} (h : r = r') : pcallS r k q = pcallS r' k q := by rw [h]
@[go_sem] theorem pcallS_some {v : AV} {k : AV → AHeap → Prop} {q : Prop} : pcallS (some (v, A)) k q = k v A := by rfl
@[go_sem] theorem pcallS_none {k : AV → AHeap → Prop} {q : Prop} : pcallS none k q = q := by rfl
def pcallK (p : PF) (A : AHeap) (k : AV → AHeap → Prop) (g : Option AV) (args : Option (List AV)) : Prop := match g, args with
 | some (.func (.func h) first captured), some args => pcallS (acl p.F.c h (first ++ args ++ captured) A) k (pcl p.F.c p.px h (first ++ args ++ captured) A p.post)
 | _, _ => False
@[congr] theorem pcallK_congr {k : AV → AHeap → Prop} {g g' : Option AV} {a a' : Option (List AV)} (h : g = g') (h' : a = a') : pcallK p A k g a = pcallK p A k g' a' := by rw [h, h']
@[go_sem] theorem pcallK_some {h : FuncId} {first captured args : List AV} {k : AV → AHeap → Prop} : pcallK p A k (some (.func (.func h) first captured)) (some args) = pcallS (acl p.F.c h (first ++ args ++ captured) A) k (pcl p.F.c p.px h (first ++ args ++ captured) A p.post) := by rfl
def pselG (g : Option Bool) (x y : Prop) : Prop := match g with
 | some b => if b = true then x else y
 | none => False
@[congr] theorem pselG_congr {g g' : Option Bool} {x y : Prop} (h : g = g') : pselG g x y = pselG g' x y := by rw [h]
@[go_sem] theorem pselG_true {x y : Prop} : pselG (some true) x y = x := by simp [pselG]
@[go_sem] theorem pselG_false {x y : Prop} : pselG (some false) x y = y := by simp [pselG]
def PxNo (c : ACtx) (px : PXF) : Prop := ∀ f args A x A', px f args A x A' → acl c f args A = none
theorem po_call (hpx : PxNo p.F.c p.px) {ops : Array Oper} {dst : Option Tmp} {gop : Operand} {as : Array Operand} {ts : Array TypeId} {ty : TypeId} {pos : String} {after : Array Edge} {gd : Option (Nat × Bool)} {rest : List Oper} :
  pops p ks ops (⟨dst, .call ⟨.value gop, as, ts⟩, ty, pos, after, gd⟩ :: rest) env A =
   pselG (aguard ops env ⟨dst, .call ⟨.value gop, as, ts⟩, ty, pos, after, gd⟩) (pcallK p A (fun v B => pput p ks ops rest (aputS p.F.nt dst env (some (.v v, B)))) (aeval env gop) (aevals env as.toList)) (pput p ks ops rest (aput0 p.F.nt dst env A)) := by
 apply propext
 rw [po_or, r_step]
 cases hg : aguard ops env ⟨dst, .call ⟨.value gop, as, ts⟩, ty, pos, after, gd⟩ with
 | none =>
   simp only [pselG, asel_none, pput]
   constructor
   ·rintro (⟨h, _⟩ | h)
    ·cases h
    ·exact h
   ·exact fun h => h.elim
 | some b =>
   cases b with
   | false =>
     rw [pselG_false, asel_false]
     constructor
     ·rintro (⟨h, _⟩ | h)
      ·cases h
      ·exact h
     ·exact .inr
   | true =>
     rw [pselG_true, asel_true, aop_slot (by rfl), o_call]
     unfold pcallK acallK
     constructor
     ·rintro (⟨_, v, B, h, hs⟩ | h)
      ·cases h with
       | call k1 k2 k3 k4 =>
         simp only [Op.call.injEq, Call.mk.injEq, Callee.value.injEq] at k1
         obtain ⟨rfl, rfl, rfl⟩ := k1
         have hn := pan_no hpx k4
         change acl _ _ _ _ = none at hn
         rw [k2, k3]
         simp only [hn, pcallS]
         exact ⟨v, B, k4, hs⟩
      ·split
       ·rename_i h2 first captured args e1 e2
        simp only [e1, e2] at h
        cases hc : acl p.F.c h2 (first ++ args ++ captured) A with
        | none => rw [hc] at h; exact h.elim
        | some r => rw [hc] at h; exact h
       ·rename_i hne
        split at h
        ·rename_i e1 e2; exact (hne _ _ _ _ e1 e2).elim
        ·exact h.elim
     ·intro h
      split at h
      ·rename_i h2 first captured args e1 e2
       simp only [e1, e2]
       cases hc : acl p.F.c h2 (first ++ args ++ captured) A with
       | none =>
         rw [hc] at h
         obtain ⟨v, B, k, hs⟩ := h
         exact .inl ⟨trivial, v, B, .call rfl e1 e2 k, hs⟩
       | some r => rw [hc] at h; exact .inr h
      ·exact h.elim
theorem k_pan {fn : Func} {code : Code} (hg : c.ext f = none) (hf : c.P.funcs[f]? = some fn) (hb : fn.body = some code) (hk : fnOk c.P f = true) (ho : c.own f = false) (hnt : fn.ntmps = nt) {ra : Array ResultVar} (hrs : fn.results = ra)
  (hn : args.length ≤ nt) (h : pek ⟨⟨c, f, nt, ra.toList, A⟩, px, R⟩ [] code (aenter 0 (acleanVs A args).1) (acleanVs A args).2) : pcl c px f args A R := by
 obtain ⟨x, B, h | h, hs⟩ := h
 ·subst hnt
  exact ⟨_, _, .body hg hf hb hk hn (by rw [ho]; rfl) h rfl, hs⟩
 ·exact h.elim
theorem k_pan_own {fn : Func} {code : Code} (hg : c.ext f = none) (hf : c.P.funcs[f]? = some fn) (hb : fn.body = some code) (hk : fnOk c.P f = true) (ho : c.own f = true) (hnt : fn.ntmps = nt) {ra : Array ResultVar} (hrs : fn.results = ra)
  (hn : args.length ≤ nt) (h : pek ⟨⟨c, f, nt, ra.toList, A⟩, px, R⟩ [] code (aenter 0 args) A) : pcl c px f args A R := by
 obtain ⟨x, B, h | h, hs⟩ := h
 ·subst hnt
  exact ⟨_, _, .body hg hf hb hk hn (by rw [ho]; rfl) h rfl, hs⟩
 ·exact h.elim
end
section
variable {c : ACtx} {px : PXF} {f nt : Nat} {env e : AEnv} {A A0 A1 A' : AHeap} {p : PF} {ks : List KF} {x y : Code} {R R' : PR} {g : FuncId} {args : List AV} {i : Nat} {ops : Array Oper} {rest : List Oper} {ms : List AMark}
def pct (p : PF) (ops : Array Oper) : Nat → List Oper → AEnv → AHeap → List AMark → Prop
 | _, [], _, _, _ => False
 | i, o :: rest, env, A, ms =>
   (aguard ops env o = some true ∧ ∃ gop as ts g first captured args, o.op = .call ⟨.value gop, as, ts⟩ ∧ aeval env gop = some (.func (.func g) first captured) ∧ aevals env as.toList = some args ∧
    adrawnP ops ms i ∧ pcl p.F.c p.px g (first ++ args ++ captured) A p.post) ∨
   (aguard ops env o = some true ∧ ∃ r, aop p.F.c.noesc (acl p.F.c) p.F.f p.F.nt o env A = some r ∧
    pct p ops (i + 1) rest r.1 r.2 (ms ++ [⟨i, auses env p.F.f p.F.c.noesc o, pstore env o, atouch ops env o, r.2.objs ≠ A.objs, r.2.bufs ≠ A.bufs, aldOf env p.F.c.noesc o, achg r.2 A⟩])) ∨
   (aguard ops env o = some false ∧ ∃ e1, aput p.F.nt o.dst (.v (.tuple [])) env = some e1 ∧ pct p ops (i + 1) rest e1 A (ms ++ [⟨i, (false, false), none, atouch ops env o, False, False, none, fun _ _ _ => False⟩]))
theorem pct_spec : ∀ (rest : List Oper) {i : Nat} {env : AEnv} {A : AHeap} {ms : List AMark}, pct p ops i rest env A ms →
  ∃ pre o post e1 A1 ms1 gop as ts g first captured args, rest = pre ++ o :: post ∧ atrace p.F.c.noesc (acl p.F.c) p.F.f p.F.nt ops i pre env A = some ((e1, A1), ms1) ∧ aguard ops e1 o = some true ∧ adrawnP ops (ms ++ ms1) (i + pre.length) ∧
    o.op = .call ⟨.value gop, as, ts⟩ ∧ aeval e1 gop = some (.func (.func g) first captured) ∧ aevals e1 as.toList = some args ∧ pcl p.F.c p.px g (first ++ args ++ captured) A1 p.post
 | [], _, _, _, _, h => h.elim
 | o :: rest, i, env, A, ms, h => by
   rcases h with ⟨h1, gop, as, ts, g, first, captured, args, h2, h3, h4, h5, h6⟩ | ⟨h1, r, h2, h3⟩ | ⟨h1, e1, h2, h3⟩
   ·exact ⟨[], o, rest, env, A, [], gop, as, ts, g, first, captured, args, rfl, rfl, h1, by simpa using h5, h2, h3, h4, h6⟩
   ·obtain ⟨pre, o', post, e1, A1, ms1, gop, as, ts, g, first, captured, args, k1, k2, k3, k4, k5⟩ := pct_spec rest h3
    refine ⟨o :: pre, o', post, e1, A1, ⟨i, auses env p.F.f p.F.c.noesc o, pstore env o, atouch ops env o, r.2.objs ≠ A.objs, r.2.bufs ≠ A.bufs, aldOf env p.F.c.noesc o, achg r.2 A⟩ :: ms1, gop, as, ts, g, first, captured, args, by rw [k1]; rfl, ?_, k3, ?_, k5⟩
    ·simp only [atrace, h1, Option.bind_some, if_true, h2, k2, Option.map_some]
    ·rw [List.append_assoc, List.singleton_append] at k4
     have : i + (o :: pre).length = i + 1 + pre.length := by simp; omega
     rw [this]
     exact k4
   ·obtain ⟨pre, o', post, e2, A1, ms1, gop, as, ts, g, first, captured, args, k1, k2, k3, k4, k5⟩ := pct_spec rest h3
    refine ⟨o :: pre, o', post, e2, A1, ⟨i, (false, false), none, atouch ops env o, False, False, none, fun _ _ _ => False⟩ :: ms1, gop, as, ts, g, first, captured, args, by rw [k1]; rfl, ?_, k3, ?_, k5⟩
    ·simp only [atrace, h1, Option.bind_some, Bool.false_eq_true, if_false, h2, k2, Option.map_some]
    ·rw [List.append_assoc, List.singleton_append] at k4
     have : i + (o :: pre).length = i + 1 + pre.length := by simp; omega
     rw [this]
     exact k4
theorem p_drawn {id : Nat} {l : List Oper} (h : pct p l.toArray 0 l (noPlaces (atrim p.F.c p.F.f (some id) env)) A []) : pek p ks (.region id l.toArray true) env A := by
 obtain ⟨pre, o, post, e1, A1, ms1, gop, as, ts, g, first, captured, args, k1, k2, k3, k4, k5, k6, k7, v, B, k8, hs⟩ := pct_spec l h
 refine ⟨v, B, .inl (.drawn (pre := pre) (o := o) (post := post) (by simpa using k1) k2 k3 (by simpa using k4) k5 k6 k7 k8), hs⟩
@[congr] theorem pct_congr {e' : AEnv} {A' : AHeap} (h : env = e') (h' : A = A') : pct p ops i rest env A ms = pct p ops i rest e' A' ms := by rw [h, h']
def pctS (p : PF) (ops : Array Oper) (i : Nat) (rest : List Oper) (A : AHeap) (ms : List AMark) (us : Bool × Bool) (px : Option Nat) (tc : List Nat) (ld : Option (Nat × Bool × AV)) (r : Option (AEnv × AHeap)) : Prop := match r with
 | some r => pct p ops (i + 1) rest r.1 r.2 (ms ++ [⟨i, us, px, tc, r.2.objs ≠ A.objs, r.2.bufs ≠ A.bufs, ld, achg r.2 A⟩])
 | none => False
@[congr] theorem pctS_congr {us us' : Bool × Bool} {px px' : Option Nat} {tc : List Nat} {ld : Option (Nat × Bool × AV)} {r r' : Option (AEnv × AHeap)} (h1 : us = us') (h2 : px = px') (h3 : r = r') :
  pctS p ops i rest A ms us px tc ld r = pctS p ops i rest A ms us' px' tc ld r' := by rw [h1, h2, h3]
@[go_sem] theorem pctS_some {us : Bool × Bool} {px : Option Nat} {tc : List Nat} {ld : Option (Nat × Bool × AV)} :
  pctS p ops i rest A ms us px tc ld (some (e, A')) = pct p ops (i + 1) rest e A' (ms ++ [⟨i, us, px, tc, A'.objs ≠ A.objs, A'.bufs ≠ A.bufs, ld, achg A' A⟩]) := by rfl
@[go_sem low] theorem pct_cons {dst : Option Tmp} {op : Op} {ty : TypeId} {pos : String} {after : Array Edge} (h : isCall op = false) :
  pct p ops i (⟨dst, op, ty, pos, after, none⟩ :: rest) env A ms = pctS p ops i rest A ms (auses env p.F.f p.F.c.noesc ⟨dst, op, ty, pos, after, none⟩) (pstore env ⟨dst, op, ty, pos, after, none⟩) (atouch ops env ⟨dst, op, ty, pos, after, none⟩) (aldOf env p.F.c.noesc ⟨dst, op, ty, pos, after, none⟩) (aop p.F.c.noesc (acl p.F.c) p.F.f p.F.nt ⟨dst, op, ty, pos, after, none⟩ env A) := by
  apply propext
  have hg : aguard ops env ⟨dst, op, ty, pos, after, none⟩ = some true := rfl
  simp only [pct]
  constructor
  ·rintro (⟨_, gop, as, ts, g, first, captured, args, h2, _⟩ | ⟨_, r, h2, h3⟩ | ⟨h1, _⟩)
   ·rw [h2] at h; cases h
   ·rw [h2]; exact h3
   ·rw [hg] at h1; cases h1
  ·intro h3
   cases hz : aop p.F.c.noesc (acl p.F.c) p.F.f p.F.nt ⟨dst, op, ty, pos, after, none⟩ env A with
   | none => rw [hz] at h3; exact h3.elim
   | some r => rw [hz] at h3; exact .inr (.inl ⟨hg, r, rfl, h3⟩)
@[go_sem] theorem pct_slot {dst : Option Tmp} {op : Op} {ty : TypeId} {pos : String} {after : Array Edge} (h : isCall op = false) (h2 : isSlot op = true) :
  pct p ops i (⟨dst, op, ty, pos, after, none⟩ :: rest) env A ms = pctS p ops i rest A ms (auses env p.F.f p.F.c.noesc ⟨dst, op, ty, pos, after, none⟩) none (atouch ops env ⟨dst, op, ty, pos, after, none⟩) (aldOf env p.F.c.noesc ⟨dst, op, ty, pos, after, none⟩) (aputS p.F.nt dst env (aslot p.F.c.noesc (acl p.F.c) env A op)) := by
  rw [pct_cons h, aop_slot h2, pstore_slot h2]
theorem pct_here {dst : Option Tmp} {gop : Operand} {as : Array Operand} {ts : Array TypeId} {ty : TypeId} {pos : String} {after : Array Edge} {first captured : List AV} {gd : Option (Nat × Bool)} (hg : aguard ops env ⟨dst, .call ⟨.value gop, as, ts⟩, ty, pos, after, gd⟩ = some true)
  (h1 : aeval env gop = some (.func (.func g) first captured)) (h2 : aevals env as.toList = some args) (h3 : adrawnP ops ms i) (h4 : pcl p.F.c p.px g (first ++ args ++ captured) A p.post) :
  pct p ops i (⟨dst, .call ⟨.value gop, as, ts⟩, ty, pos, after, gd⟩ :: rest) env A ms := .inl ⟨hg, gop, as, ts, g, first, captured, args, rfl, h1, h2, h3, h4⟩
def adrawnPB (free : List Nat) (ops : Array Oper) (bs : List BM) (k : Nat) : Bool :=
 adrawnF free ops bs && (bs.all fun m => !(m.co || m.cb || m.px.isSome) || aord ops m.i k) && ((List.range ops.size).all fun j => !(Nat.blt k j) || aord ops k j)
theorem adrawnP_of {free : List Nat} {bs : List BM} {k : Nat} (h : MLe ms bs) (hf : ∀ m' ∈ ms, free.contains m'.i = true → ∃ n agg q, m'.ld = some (n, agg, q) ∧ ∀ m ∈ ms, ¬ m.cp n agg q) (hb : adrawnPB free ops bs k = true) : adrawnP ops ms k := by
 simp only [adrawnPB, Bool.and_eq_true] at hb
 obtain ⟨⟨h1, h2⟩, h3⟩ := hb
 refine ⟨adrawn_of_F h hf h1, fun m hm hx => ?_, fun j hj hjs => ?_⟩
 ·obtain ⟨b, hb1, e1, e2, e3, _, e4, e5⟩ := h.mem m hm
  have := List.all_eq_true.1 h2 b hb1
  rw [e1, e3] at this
  simp only [Bool.or_eq_true, Bool.not_eq_true', Bool.or_eq_false_iff] at this
  rcases this with ⟨⟨k1, k2⟩, k3⟩ | this
  ·exfalso
   rcases hx with hx | hx | hx
   ·rw [e4 hx] at k1; cases k1
   ·rw [e5 hx] at k2; cases k2
   ·cases hp : m.px with
    | none => exact hx hp
    | some s => rw [hp] at k3; cases k3
  ·exact this
 ·have := List.all_eq_true.1 h3 j (List.mem_range.2 hjs)
  simp only [Bool.or_eq_true, Bool.not_eq_true'] at this
  rcases this with h | h
  ·have : Nat.blt k j = true := by rw [Nat.blt_eq]; exact hj
   rw [this] at h; cases h
  ·exact h
end
section
variable {env e : AEnv} {A A' : AHeap} {p : PF} {ks : List KF} {i : Nat} {ops : Array Oper} {rest : List Oper} {ms : List AMark}
def pr (p : PF) (ks : List KF) (ops : Array Oper) (i : Nat) (rest : List Oper) (env : AEnv) (A : AHeap) (ms : List AMark) : Prop :=
 ∃ r, atrace p.F.c.noesc (acl p.F.c) p.F.f p.F.nt ops i rest env A = some r ∧ adrawn ops (ms ++ r.2) ∧ pkn p ks (apromote (p.F.c.esc p.F.f) ops.toList r.1.1 r.1.2).1 (apromote (p.F.c.esc p.F.f) ops.toList r.1.1 r.1.2).2
@[congr] theorem pr_congr (h : env = e) (h' : A = A') : pr p ks ops i rest env A ms = pr p ks ops i rest e A' ms := by rw [h, h']
theorem p_drawn_r {id : Nat} {l : List Oper} (h : pr p ks l.toArray 0 l (noPlaces (atrim p.F.c p.F.f (some id) env)) A []) : pek p ks (.region id l.toArray true) env A := by
 obtain ⟨r, h1, h2, x, B, h3, h4⟩ := h
 refine ⟨x, B, .inr ?_, h4⟩
 have : ax p.F.c p.F.f p.F.nt (.region id l.toArray true) env A = some (.normal, (apromote (p.F.c.esc p.F.f) l r.1.1 r.1.2).1, (apromote (p.F.c.esc p.F.f) l r.1.1 r.1.2).2) := by
  have e : ax p.F.c p.F.f p.F.nt (.region id l.toArray true) env A = (aregion p.F.c (acl p.F.c) p.F.f p.F.nt l.toArray true (atrim p.F.c p.F.f (some id) env) A).map fun r => (.normal, r.1, r.2) := ax_region
  rw [e]
  unfold aregion
  simp only [List.nil_append] at h2
  simp only [if_true, h1, Option.bind_some]
  rw [if_pos (.inl h2)]
  rfl
 rw [this]
 exact h3
def prS (p : PF) (ks : List KF) (ops : Array Oper) (i : Nat) (rest : List Oper) (A : AHeap) (ms : List AMark) (us : Bool × Bool) (px : Option Nat) (tc : List Nat) (ld : Option (Nat × Bool × AV)) (r : Option (AEnv × AHeap)) : Prop := match r with
 | some r => pr p ks ops (i + 1) rest r.1 r.2 (ms ++ [⟨i, us, px, tc, r.2.objs ≠ A.objs, r.2.bufs ≠ A.bufs, ld, achg r.2 A⟩])
 | none => False
@[congr] theorem prS_congr {us us' : Bool × Bool} {px px' : Option Nat} {tc : List Nat} {ld : Option (Nat × Bool × AV)} {r r' : Option (AEnv × AHeap)} (h1 : us = us') (h2 : px = px') (h3 : r = r') :
  prS p ks ops i rest A ms us px tc ld r = prS p ks ops i rest A ms us' px' tc ld r' := by rw [h1, h2, h3]
@[go_sem] theorem prS_some {us : Bool × Bool} {px : Option Nat} {tc : List Nat} {ld : Option (Nat × Bool × AV)} :
  prS p ks ops i rest A ms us px tc ld (some (e, A')) = pr p ks ops (i + 1) rest e A' (ms ++ [⟨i, us, px, tc, A'.objs ≠ A.objs, A'.bufs ≠ A.bufs, ld, achg A' A⟩]) := by rfl
@[go_sem low] theorem pr_cons {dst : Option Tmp} {op : Op} {ty : TypeId} {pos : String} {after : Array Edge} :
  pr p ks ops i (⟨dst, op, ty, pos, after, none⟩ :: rest) env A ms = prS p ks ops i rest A ms (auses env p.F.f p.F.c.noesc ⟨dst, op, ty, pos, after, none⟩) (pstore env ⟨dst, op, ty, pos, after, none⟩) (atouch ops env ⟨dst, op, ty, pos, after, none⟩) (aldOf env p.F.c.noesc ⟨dst, op, ty, pos, after, none⟩) (aop p.F.c.noesc (acl p.F.c) p.F.f p.F.nt ⟨dst, op, ty, pos, after, none⟩ env A) := by
  unfold prS pr
  simp only [atrace, aguard, Option.bind_some, if_true]
  cases aop p.F.c.noesc (acl p.F.c) p.F.f p.F.nt ⟨dst, op, ty, pos, after, none⟩ env A with
  | none => simp
  | some r =>
    simp only [Option.bind_some]
    cases atrace p.F.c.noesc (acl p.F.c) p.F.f p.F.nt ops (i + 1) rest r.1 r.2 with
    | none => simp
    | some q => simp [List.append_assoc]
@[go_sem] theorem pr_slot {dst : Option Tmp} {op : Op} {ty : TypeId} {pos : String} {after : Array Edge} (h2 : isSlot op = true) :
  pr p ks ops i (⟨dst, op, ty, pos, after, none⟩ :: rest) env A ms = prS p ks ops i rest A ms (auses env p.F.f p.F.c.noesc ⟨dst, op, ty, pos, after, none⟩) none (atouch ops env ⟨dst, op, ty, pos, after, none⟩) (aldOf env p.F.c.noesc ⟨dst, op, ty, pos, after, none⟩) (aputS p.F.nt dst env (aslot p.F.c.noesc (acl p.F.c) env A op)) := by
  rw [pr_cons, aop_slot h2, pstore_slot h2]
def prE (p : PF) (ks : List KF) (ops : Array Oper) (env : AEnv) (A : AHeap) (ms : List AMark) : Prop :=
 adrawn ops ms ∧ pkn p ks (apromote (p.F.c.esc p.F.f) ops.toList env A).1 (apromote (p.F.c.esc p.F.f) ops.toList env A).2
@[go_sem] theorem pr_nil : pr p ks ops i [] env A ms = prE p ks ops env A ms := by
  unfold pr prE
  simp [atrace]
theorem prE_ok {l : List Oper} {bs : List BM} (h : MLe ms bs) (hb : adrawnB l.toArray bs = true) (hk : pkn p ks (apromote (p.F.c.esc p.F.f) l env A).1 (apromote (p.F.c.esc p.F.f) l env A).2) :
  prE p ks l.toArray env A ms := ⟨adrawn_of_B h hb, hk⟩
end
section
variable {env : AEnv} {A : AHeap} {d t : Nat} {x : Operand} {ty : TypeId}
end
section
variable {c : ACtx} {call : FuncId → AFun} {env : AEnv} {A : AHeap} {t : TypeId} {x y z : Operand} {P : Program} {id kd e : Nat} {key : Dat} {v w : AV} {ok : Bool} {es : List (Dat × AV)}
abbrev NM := List (Bytes × Int)
def NM.get (l : NM) (k : Bytes) : Option Int := match l with
 | [] => none
 | (j, t) :: l => if (k == j) = true then some t else NM.get l k
def NM.put (l : NM) (k : Bytes) (t : Int) : NM := match l with
 | [] => [(k, t)]
 | (j, u) :: l => if (k == j) = true then (k, t) :: l else (j, u) :: NM.put l k t
def NM.del (l : NM) (k : Bytes) : NM := match l with
 | [] => []
 | (j, u) :: l => if (k == j) = true then l else (j, u) :: NM.del l k
def mi (l : NM) : List (Dat × AV) := l.map fun p => (.str p.1, .d (.int .i64 p.2))
def SS.put (l : List Bytes) (k : Bytes) : List Bytes := match l with
 | [] => [k]
 | j :: l => if (k == j) = true then k :: l else j :: SS.put l k
def SS.del (l : List Bytes) (k : Bytes) : List Bytes := match l with
 | [] => []
 | j :: l => if (k == j) = true then l else j :: SS.del l k
def SS.has (l : List Bytes) (k : Bytes) : Bool := l.any fun j => k == j
def mb (l : List Bytes) : List (Dat × AV) := l.map fun p => (.str p, .d (.bool true))
theorem afind_mi (k : Bytes) : ∀ l : NM, afind 2 (.str k) (mi l) = some ((l.get k).map fun t => .d (.int .i64 t))
 | [] => rfl
 | (j, t) :: l => by
   have ih := afind_mi k l
   unfold mi at ih ⊢
   simp only [List.map_cons, afind, aeqK, Option.bind_some, NM.get]
   by_cases h : (k == j) = true
   ·simp only [h, if_true, Option.map_some]
   ·simp only [Bool.not_eq_true] at h
    simp only [h, Bool.false_eq_true, if_false, ih]
theorem aupd_mi (k : Bytes) (t : Int) : ∀ l : NM, aupd 2 (.str k) (.d (.int .i64 t)) (mi l) = some (mi (l.put k t))
 | [] => rfl
 | (j, u) :: l => by
   have ih := aupd_mi k t l
   unfold mi at ih ⊢
   simp only [List.map_cons, aupd, aeqK, Option.bind_some, NM.put]
   by_cases h : (k == j) = true
   ·simp only [h, if_true, List.map_cons]
   ·simp only [Bool.not_eq_true] at h
    simp only [h, Bool.false_eq_true, if_false, ih, Option.map_some, List.map_cons]
theorem adel_mi (k : Bytes) : ∀ l : NM, adel 2 (.str k) (mi l) = some (mi (l.del k))
 | [] => rfl
 | (j, u) :: l => by
   have ih := adel_mi k l
   unfold mi at ih ⊢
   simp only [List.map_cons, adel, aeqK, Option.bind_some, NM.del]
   by_cases h : (k == j) = true
   ·simp only [h, if_true]
   ·simp only [Bool.not_eq_true] at h
    simp only [h, Bool.false_eq_true, if_false, ih, Option.map_some, List.map_cons]
theorem afind_mb (k : Bytes) : ∀ l : List Bytes, afind 2 (.str k) (mb l) = some (if SS.has l k = true then some (.d (.bool true)) else none)
 | [] => rfl
 | j :: l => by
   have ih := afind_mb k l
   unfold mb SS.has at ih ⊢
   simp only [List.map_cons, afind, aeqK, Option.bind_some, List.any_cons]
   by_cases h : (k == j) = true
   ·simp only [h, if_true, Bool.true_or]
   ·simp only [Bool.not_eq_true] at h
    simp only [h, Bool.false_eq_true, if_false, ih, Bool.false_or]
theorem aupd_mb (k : Bytes) : ∀ l : List Bytes, aupd 2 (.str k) (.d (.bool true)) (mb l) = some (mb (SS.put l k))
 | [] => rfl
 | j :: l => by
   have ih := aupd_mb k l
   unfold mb at ih ⊢
   simp only [List.map_cons, aupd, aeqK, Option.bind_some, SS.put]
   by_cases h : (k == j) = true
   ·simp only [h, if_true, List.map_cons]
   ·simp only [Bool.not_eq_true] at h
    simp only [h, Bool.false_eq_true, if_false, ih, Option.map_some, List.map_cons]
def alkR (P : Program) (t : TypeId) (A : AHeap) (ok : Bool) (a b : Option AV) : Option AV := match a, b with
 | some a, some b => alookup P t A a b ok
 | _, _ => none
@[go_sem] theorem o_lookup : aslot c call env A (.lookup t x y ok) = asv A (alkR c.P t A ok (aeval env x) (aeval env y)) := by
  simp only [aslot, aval1, asv, alkR]
  cases aeval env x <;> cases aeval env y <;> simp [Function.comp_def]
def alkF (z : Option AV) (ok : Bool) (r : Option (Option AV)) : Option AV := r.bind fun r => match r with
 | some v => some (if ok then .tuple [v, .d (.bool true)] else v)
 | none => z.map fun z => if ok then .tuple [z, .d (.bool false)] else z
def alkM (P : Program) (ok : Bool) (key : Dat) (q : Option (Nat × TypeId)) (o : Option AObj) : Option AV := match q, o with
 | some (kd, e), some (.map es) => alkF (zeroT P e) ok (afind kd key es)
 | _, _ => none
@[go_sem] theorem alkR_some : alkR P t A ok (some v) (some w) = alookup P t A v w ok := by rfl
@[go_sem] theorem alookup_mapr : alookup P t A (.mapr id) (.d key) ok = alkM P ok key (mapT P t) A.objs[id]? := by
  unfold alookup alkM alkF
  cases mapT P t with
  | none => rfl
  | some q =>
    obtain ⟨kd, e⟩ := q
    simp only
    cases A.objs[id]? with
    | none => rfl
    | some o => cases o <;> rfl
@[go_sem] theorem alkM_some : alkM P ok key (some (kd, e)) (some (.map es)) = alkF (zeroT P e) ok (afind kd key es) := by rfl
@[go_sem] theorem alkF_found {u : Option AV} : alkF u true (some (some v)) = some (.tuple [v, .d (.bool true)]) := by rfl
@[go_sem] theorem alkF_found' {u : Option AV} : alkF u false (some (some v)) = some v := by rfl
@[go_sem] theorem alkF_none : alkF (some v) true (some none) = some (.tuple [v, .d (.bool false)]) := by rfl
@[go_sem] theorem alkF_none' : alkF (some v) false (some none) = some v := by rfl
def amuR (P : Program) (t : TypeId) (A : AHeap) (a b v : Option AV) : Option (Slot × AHeap) := match a, b, v with
 | some a, some b, some v => (amapUpdate P t A a b v).map fun A' => (.v (.tuple []), A')
 | _, _, _ => none
@[go_sem] theorem o_mapUpdate : aslot c call env A (.mapUpdate t x y z) = amuR c.P t A (aeval env x) (aeval env y) (aeval env z) := by
  simp only [aslot, aval1, amuR]
  cases aeval env x <;> cases aeval env y <;> cases aeval env z <;> simp
  rename_i a b v
  cases amapUpdate c.P t A a b v <;> rfl
def amuM (A : AHeap) (id : Nat) (key : Dat) (v : AV) (q : Option (Nat × TypeId)) (o : Option AObj) : Option (Slot × AHeap) := match q, o with
 | some (kd, _), some (.map es) => if aplainV v then (aupd kd key v es).map fun es' => (.v (.tuple []), { A with objs := A.objs.set id (.map es') }) else none
 | _, _ => none
@[go_sem] theorem amuR_some : amuR P t A (some (.mapr id)) (some (.d key)) (some v) = amuM A id key v (mapT P t) A.objs[id]? := by
  unfold amuR amapUpdate amuM
  cases mapT P t with
  | none => rfl
  | some q =>
    obtain ⟨kd, e⟩ := q
    simp only
    cases A.objs[id]? with
    | none => rfl
    | some o =>
      cases o with
      | map es =>
        simp only
        split
        ·cases aupd kd key v es <;> rfl
        ·rfl
      | _ => rfl
def amuS (A : AHeap) (id : Nat) (r : Option (List (Dat × AV))) : Option (Slot × AHeap) := r.map fun es' => (.v (.tuple []), { A with objs := A.objs.set id (.map es') })
@[go_sem] theorem amuS_some : amuS A id (some es) = some (.v (.tuple []), { A with objs := A.objs.set id (.map es) }) := by rfl
@[go_sem] theorem amuM_int {k : IntKind} {n : Int} : amuM A id key (.d (.int k n)) (some (kd, e)) (some (.map es)) = amuS A id (aupd kd key (.d (.int k n)) es) := by rfl
@[go_sem] theorem amuM_bool {b : Bool} : amuM A id key (.d (.bool b)) (some (kd, e)) (some (.map es)) = amuS A id (aupd kd key (.d (.bool b)) es) := by rfl
def adlM (A : AHeap) (id : Nat) (key : Dat) (q : Option (Nat × TypeId)) (o : Option AObj) : Option (AV × AHeap) := match q, o with
 | some (kd, _), some (.map es) => (adel kd key es).map fun es' => (.tuple [], { A with objs := A.objs.set id (.map es') })
 | _, _ => none
@[go_sem] theorem bu_delete {u : TypeId} : abuiltin P .delete #[t, u] [.mapr id, .d key] A = adlM A id key (mapT P t) A.objs[id]? := by
  simp only [abuiltin, adelete, adlM]
  cases h : mapT P t with
  | none => simp [h]
  | some q =>
    obtain ⟨kd, e⟩ := q
    simp only [List.getElem?_toArray, List.getElem?_cons_zero, h]
    cases A.objs[id]? with
    | none => rfl
    | some o =>
      cases o with
      | map es => simp only; cases adel kd key es <;> rfl
      | _ => rfl
def adlS (A : AHeap) (id : Nat) (r : Option (List (Dat × AV))) : Option (AV × AHeap) := r.map fun es' => (.tuple [], { A with objs := A.objs.set id (.map es') })
@[go_sem] theorem adlM_some : adlM A id key (some (kd, e)) (some (.map es)) = adlS A id (adel kd key es) := by rfl
@[go_sem] theorem adlS_some : adlS A id (some es) = some (.tuple [], { A with objs := A.objs.set id (.map es) }) := by rfl
def amkM (q : Option (Nat × TypeId)) (A : AHeap) : Option (Slot × AHeap) := match q with
 | some _ => some (.v (.mapr A.objs.length), { A with objs := A.objs ++ [.map []] })
 | none => none
@[go_sem] theorem o_makeMap : aslot c call env A (.makeMap t none) = amkM (mapT c.P t) A := by
  simp only [aslot, aval1, amkM]
  cases mapT c.P t <;> rfl
@[go_sem] theorem amkM_some {q : Nat × TypeId} : amkM (some q) A = some (.v (.mapr A.objs.length), { A with objs := A.objs ++ [.map []] }) := by rfl
@[go_sem] theorem e_nilM : aeval env (.const (.map none)) = some .nilM := by rfl
end
section
variable {F : AF} {ks : List KF} {body : Code} {env : AEnv} {A : AHeap} {r : Option (AV × AHeap)}
theorem loop_meas {σ : Type} (mk : σ → AEnv) (H : σ → AHeap) (m : σ → Nat) (I : σ → Prop) (s0 : σ)
  (henv : env = mk s0) (hA : A = H s0) (h0 : I s0)
  (h : ∀ s, I s → (∀ s', m s' < m s → I s' → cloop F ks body (mk s') (H s') = r) → cek F (.loop body :: ks) body (mk s) (H s) = r) :
  cloop F ks body env A = r := by
 have key : ∀ (n : Nat) (s : σ), m s < n → I s → cloop F ks body (mk s) (H s) = r := by
  intro n
  induction n with
  | zero => intro s hs; omega
  | succ n ih =>
    intro s hs hI
    exact h s hI fun s' hlt hI' => ih s' (by omega) hI'
 rw [henv, hA]
 exact key _ s0 (Nat.lt_succ_self _) h0
end
def srow (l : List (List UInt8)) : List (List Dat) := l.map fun s => [.str s]
def bsR (l : List (List UInt8)) (k : List UInt8) (i j : Nat) : Nat :=
 if h : i < j then (if Op.bytesLess (l.getD ((i + j) / 2) []) k = true then bsR l k ((i + j) / 2 + 1) j else bsR l k i ((i + j) / 2)) else i
termination_by j - i
decreasing_by all_goals omega
theorem bsR_le (l : List (List UInt8)) (k : List UInt8) (i j : Nat) (h : i ≤ j) : i ≤ bsR l k i j ∧ bsR l k i j ≤ j := by
 fun_induction bsR l k i j with
 | case1 i j hlt hl ih => have := ih (by omega); omega
 | case2 i j hlt hl ih => have := ih (by omega); omega
 | case3 i j hlt => omega
def sIn (l : List (List UInt8)) (k : List UInt8) : Bool := decide (bsR l k 0 l.length < l.length) && l.getD (bsR l k 0 l.length) [] == k
def withS (l : List (List UInt8)) (k : List UInt8) : List (List UInt8) := if sIn l k = true then l else l.take (bsR l k 0 l.length) ++ k :: l.drop (bsR l k 0 l.length)
def withFn (e : TypeId) : AFun := fun args A => match args with
 | [.own tok len, .d (.str k)] => match A.bufs[tok]? with
   | some b => match rowStrs b.rows with
     | some l => if b.e = e ∧ b.sz = 1 ∧ len = l.length ∧ b.frozen = 0 ∧ l.length ≤ 1099511627776 then some (.own tok (withS l k).length, { A with bufs := A.bufs.set tok ⟨e, 1, srow (withS l k), 0⟩ }) else none
     | none => none
   | none => none
 | [.nilS, .d (.str k)] => some (.own A.bufs.length 1, { A with bufs := A.bufs ++ [⟨e, 1, [[.str k]], 0⟩] })
 | _ => none
def cloneFn (sz : Nat) : AFun := fun args A => match (acleanVs A args).1 with
 | [.d (.slice rows)] => if rows.all (fun r => r.length == sz) = true ∧ rows.length ≤ 4194304 then some (.d (.slice rows), (acleanVs A args).2) else none
 | _ => none
def cmpFn (cmp : List UInt8 → List UInt8 → Int) : AFun := fun args A => match args with
 | [.d (.str a), .d (.str b)] => some (.d (.int .i64 (cmp a b)), A)
 | _ => none
end Go.Abs
