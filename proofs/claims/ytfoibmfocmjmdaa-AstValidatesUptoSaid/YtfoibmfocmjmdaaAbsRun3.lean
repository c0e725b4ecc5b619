/- More rules: the letters of a string, one by one; slices that grow. -/
import Derived.Test.YtfoibmfocmjmdaaAbsRun2
import Derived.Laws.RangeAny
set_option linter.unusedVariables false
set_option linter.unusedSimpArgs false
set_option linter.all false
set_option linter.deprecated false
namespace Go.Abs
section
variable {c : ACtx} {call : FuncId → AFun} {f nt : Nat} {env e : AEnv} {A A0 A' : AHeap} {rs : List ResultVar} {F : AF} {ks : List KF} {P : Program}
variable {d s t u i n off id : Nat} {x y z : Operand} {v w : AV} {ty : TypeId} {a b : List UInt8} {k : IntKind}
@[go_sem] theorem i_range : isSlot (.range t x) = true := by simp only [isSlot]
@[go_sem] theorem i_next {b : Bool} : isSlot (.next x b) = true := by simp only [isSlot]
def arngK (c : ACtx) (A : AHeap) (t : TypeId) (v : Option AV) : Option (Slot × AHeap) := match v with
    | some (.d (.str s)) => if strT c.P t = true then some (.v (.ptr A.objs.length 0), { A with objs := A.objs ++ [.iter s 0] }) else none
    | _ => none
@[go_sem] theorem o_range : aslot c call env A (.range t x) = arngK c A t (aeval env x) := by
  simp only [aslot, aval1, arngK]
  generalize aeval env x = v1
  cases v1 with
  | none => rfl
  | some v =>
    cases v with
    | d dd =>
      cases dd with
      | str s => simp only; split <;> rfl
      | _ => rfl
    | _ => rfl
@[go_sem] theorem arngK_some (h : strT c.P t = true) : arngK c A t (some (.d (.str a))) = some (.v (.ptr A.objs.length 0), { A with objs := A.objs ++ [.iter a 0] }) := by simp [arngK, h]
@[go_sem] theorem o_next : aslot c call env A (.next x true) = asv2 ((aeval env x).bind (anext A)) := by
  simp only [aslot, aval1, asv2, if_true]
def anextO (A : AHeap) (id : Nat) (o : Option AObj) : Option (AV × AHeap) := match o with
    | some (.iter s pos) => if pos < s.length then
        some (.tuple [.d (.bool true), .d (.int .i64 pos), .d (.int .i32 (Utf8.decode ⟨s.toArray⟩ pos).1)], { A with objs := A.objs.set id (.iter s (pos + (Utf8.decode ⟨s.toArray⟩ pos).2)) })
      else some (.tuple [.d (.bool false)], A)
    | _ => none
@[go_sem] theorem anext_ptr : anext A (.ptr id 0) = anextO A id A.objs[id]? := by rfl
theorem decode_mid {pre suf : List UInt8} {x : UInt8} (h : x.toNat < 128) : Utf8.decode ⟨(pre ++ x :: suf).toArray⟩ pre.length = (x.toNat, 1) := by
  have hp : pre.length < (⟨(pre ++ x :: suf).toArray⟩ : ByteArray).size := by simp [ByteArray.size]
  have hx : (⟨(pre ++ x :: suf).toArray⟩ : ByteArray)[pre.length]'hp = x := by simp [ByteArray.getElem_eq_getElem_data]
  rw [decode_ascii _ _ hp (by rw [hx]; exact h), hx]
theorem decode_midh {pre suf : List UInt8} {x : UInt8} (h : 128 ≤ x.toNat) : 128 ≤ (Utf8.decode ⟨(pre ++ x :: suf).toArray⟩ pre.length).1 := by
  have hp : pre.length < (⟨(pre ++ x :: suf).toArray⟩ : ByteArray).size := by simp [ByteArray.size]
  have hx : (⟨(pre ++ x :: suf).toArray⟩ : ByteArray)[pre.length]'hp = x := by simp [ByteArray.getElem_eq_getElem_data]
  exact (decode_high _ _ hp (by rw [hx]; exact h)).1
theorem anextO_low {pre suf : List UInt8} {x : UInt8} (h : x.toNat < 128) : anextO A id (some (.iter (pre ++ x :: suf) pre.length)) =
    some (.tuple [.d (.bool true), .d (.int .i64 pre.length), .d (.int .i32 x.toNat)], { A with objs := A.objs.set id (.iter (pre ++ x :: suf) (pre.length + 1)) }) := by
  simp [anextO, decode_mid h]
theorem anextO_end {a : List UInt8} : anextO A id (some (.iter a a.length)) = some (.tuple [.d (.bool false)], A) := by
  simp [anextO]

theorem anextO_high {pre suf : List UInt8} {x : UInt8} (h : 128 ≤ x.toNat) : ∃ r w, 128 ≤ r ∧ anextO A id (some (.iter (pre ++ x :: suf) pre.length)) =
    some (.tuple [.d (.bool true), .d (.int .i64 pre.length), .d (.int .i32 (r : Nat))], { A with objs := A.objs.set id (.iter (pre ++ x :: suf) w) }) :=
  ⟨_, _, decode_midh (pre := pre) (suf := suf) h, by simp [anextO]; rfl⟩

/-! ### loops over the elements of a slice: what is behind, what is left -/
/-- a loop whose slots are trimmed: it is taken apart by hand -/
noncomputable def cloop (F : AF) (ks : List KF) (x : Code) (env : AEnv) (A : AHeap) : Option (AV × AHeap) := cek F (.loop x :: ks) x env A
@[congr] theorem cloop_congr {y : Code} {e' : AEnv} {A' : AHeap} (h : env = e') (h' : A = A') : cloop F ks y env A = cloop F ks y e' A' := by rw [h, h']
@[go_sem] theorem k_cloop {y : Code} : cek F ks (.loop y) env A = cloop F ks y (atrim F.c F.f (firstRegion y) env) A := k_loop
theorem unroll {y : Code} : cloop F ks y env A = cek F (.loop y :: ks) y env A := rfl
theorem loop_any {α : Type} {body : Code} {env : AEnv} {A : AHeap} {r : Option (AV × AHeap)} (mk : List α → AEnv) (H : List α → AHeap) (R : List α → List α → Option (AV × AHeap)) (l : List α)
    (henv : env = mk []) (hA : A = H []) (hr : r = R [] l)
    (h : ∀ pre suf, l = pre ++ suf → (∀ x suf', suf = x :: suf' → cloop F ks body (mk (pre ++ [x])) (H (pre ++ [x])) = R (pre ++ [x]) suf') → cek F (.loop body :: ks) body (mk pre) (H pre) = R pre suf) :
    cloop F ks body env A = r := by
  have key : ∀ (suf pre : List α), l = pre ++ suf → cloop F ks body (mk pre) (H pre) = R pre suf := by
    intro suf
    induction suf with
    | nil => intro pre hl; exact h pre [] hl (fun x s hs => by cases hs)
    | cons x suf ih =>
      intro pre hl
      refine h pre (x :: suf) hl (fun y s hs => ?_)
      cases hs
      exact ih (pre ++ [x]) (by simp [hl])
  rw [henv, hA, hr]
  exact key l [] rfl
theorem loop_list {α : Type} {body : Code} {env : AEnv} {A : AHeap} {r : Option (AV × AHeap)} (mk : Nat → AEnv) (R : List α → List α → Option (AV × AHeap)) (l : List α)
    (henv : env = mk 0) (hr : r = R [] l)
    (h : ∀ pre suf, l = pre ++ suf → (∀ x suf', suf = x :: suf' → cloop F ks body (mk (pre.length + 1)) A = R (pre ++ [x]) suf') → cek F (.loop body :: ks) body (mk pre.length) A = R pre suf) :
    cloop F ks body env A = r :=
  loop_any (fun pre => mk pre.length) (fun _ => A) R l henv rfl hr fun pre suf hl ih => h pre suf hl fun x suf' hs => by
    have := ih x suf' hs
    rwa [List.length_append] at this

/-- both ways of a choice, one after the other -/
theorem wayK {α : Type} {b : Bool} {t e r : Option α} (ht : b = true → t = r) (hf : b = false → e = r) : acondK (some (.d (.bool b))) t e = r := by
  cases b
  · exact hf rfl
  · exact ht rfl

/-! ### counters -/
@[go_sem] theorem lt_mid {a b : Nat} : decide ((a : Int) < ((a + (b + 1) : Nat) : Int)) = true := by simp; omega
@[go_sem] theorem lt_self {a : Int} : decide (a < a) = false := by simp
@[go_sem] theorem lt_zero {b : Nat} : decide ((0 : Int) < ((b + 1 : Nat) : Int)) = true := by simp
theorem wrap_in {n : Int} (h1 : -9223372036854775808 ≤ n) (h2 : n ≤ 9223372036854775807) : IntKind.i64.wrap n = n := by
  unfold IntKind.wrap
  simp [IntKind.bits, IntKind.signed]
  split <;> omega
theorem wrap_nat {n : Nat} (h : n < 9223372036854775807) : IntKind.i64.wrap ((n : Int) + 1) = ((n + 1 : Nat) : Int) := by
  rw [wrap_in] <;> omega

def aconvI (o : Option IntKind) (m : Int) : Option AV := o.map fun k => .d (.int k (k.wrap m))
@[go_sem] theorem aconv_int {j : IntKind} {m : Int} : aconv P s t (.d (.int j m)) = aconvI (convT P s t) m := by rfl
@[go_sem] theorem aconvI_some {m : Int} : aconvI (some k) m = some (.d (.int k (k.wrap m))) := by rfl
@[go_sem] theorem aconv_str (h1 : strT P s = true) (h2 : strT P t = true) : aconv P s t (.d (.str a)) = some (.d (.str a)) := by simp [aconv, h1, h2]
@[go_sem] theorem wrap_u8_i32 {b : UInt8} : IntKind.i32.wrap ((b.toNat : Nat) : Int) = ((b.toNat : Nat) : Int) := by
  have := b.toNat_lt
  unfold IntKind.wrap
  simp [IntKind.bits, IntKind.signed]
  split <;> omega
@[go_sem] theorem wrap_u8_i64 {b : UInt8} : IntKind.i64.wrap ((b.toNat : Nat) : Int) = ((b.toNat : Nat) : Int) := by
  have := b.toNat_lt
  rw [wrap_in] <;> omega
theorem any_eq {α : Type} [BEq α] [LawfulBEq α] (l : List α) (s : α) : l.any (· == s) = l.contains s := by
  rw [List.contains_eq_any_beq]
  congr 1
  funext x
  exact Bool.beq_comm

/-! ### plain results -/
@[go_sem] theorem still3_d {x : Dat} : (AV.d x).still3 = true := by rfl
@[go_sem] theorem still3_nilS : AV.nilS.still3 = true := by rfl
@[go_sem] theorem still3_full {r : List (List Dat)} : (AV.full r).still3 = true := by rfl
@[go_sem] theorem still3_agg {cs : List AV} : (AV.agg cs).still3 = cs.all AV.still1 := by rfl
@[go_sem] theorem still3_tuple {cs : List AV} : (AV.tuple cs).still3 = cs.all AV.still2 := by rfl
@[go_sem] theorem still2_d {x : Dat} : (AV.d x).still2 = true := by rfl
@[go_sem] theorem still2_nilS : AV.nilS.still2 = true := by rfl
@[go_sem] theorem still2_full {r : List (List Dat)} : (AV.full r).still2 = true := by rfl
@[go_sem] theorem still2_agg {cs : List AV} : (AV.agg cs).still2 = cs.all AV.still1 := by rfl
@[go_sem] theorem still1_d {x : Dat} : (AV.d x).still1 = true := by rfl
@[go_sem] theorem still1_nilS : AV.nilS.still1 = true := by rfl
@[go_sem] theorem still1_full {r : List (List Dat)} : (AV.full r).still1 = true := by rfl
@[go_sem] theorem clean3_d {x : Dat} : (AV.d x).clean3 = .d x := by rfl
@[go_sem] theorem clean3_nilS : AV.nilS.clean3 = .d (.slice []) := by rfl
@[go_sem] theorem clean3_full {r : List (List Dat)} : (AV.full r).clean3 = .d (.slice r) := by rfl
@[go_sem] theorem clean3_agg {cs : List AV} : (AV.agg cs).clean3 = .agg (cs.map AV.clean1) := by rfl
@[go_sem] theorem clean3_tuple {cs : List AV} : (AV.tuple cs).clean3 = .tuple (cs.map AV.clean2) := by rfl
@[go_sem] theorem clean2_d {x : Dat} : (AV.d x).clean2 = .d x := by rfl
@[go_sem] theorem clean2_nilS : AV.nilS.clean2 = .d (.slice []) := by rfl
@[go_sem] theorem clean2_full {r : List (List Dat)} : (AV.full r).clean2 = .d (.slice r) := by rfl
@[go_sem] theorem clean2_agg {cs : List AV} : (AV.agg cs).clean2 = .agg (cs.map AV.clean1) := by rfl
@[go_sem] theorem clean1_d {x : Dat} : (AV.d x).clean1 = .d x := by rfl
@[go_sem] theorem clean1_nilS : AV.nilS.clean1 = .d (.slice []) := by rfl
@[go_sem] theorem clean1_full {r : List (List Dat)} : (AV.full r).clean1 = .d (.slice r) := by rfl
attribute [go_sem] List.all_cons List.all_nil
attribute [go_sem] afinR_still
@[go_sem] theorem afinR_obj {objs : List AObj} (ho : c.own f = false) (h : v.still3 = true) : afinR c f A0 ⟨A0.objs ++ objs, A0.bufs⟩ (some v) = some (v.clean3, A0) := by
  have := afinR_back (A0 := A0) (objs := objs) (bufs := []) ho h
  rwa [List.append_nil] at this
@[go_sem] theorem afinR_buf {bufs : List ABuf} (ho : c.own f = false) (h : v.still3 = true) : afinR c f A0 ⟨A0.objs, A0.bufs ++ bufs⟩ (some v) = some (v.clean3, A0) := by
  have := afinR_back (A0 := A0) (objs := []) (bufs := bufs) ho h
  rwa [List.append_nil] at this
attribute [go_sem] afinR_back
end
end Go.Abs
