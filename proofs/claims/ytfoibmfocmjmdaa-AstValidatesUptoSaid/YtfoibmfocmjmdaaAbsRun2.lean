/- More rules by which the abstract machine is run symbolically: strings, slices, structs, maps. -/
import Derived.Test.YtfoibmfocmjmdaaAbsRun
set_option linter.unusedVariables false
set_option linter.unusedSimpArgs false
set_option linter.all false
set_option linter.deprecated false
namespace Go.Abs
section
variable {c : ACtx} {call : FuncId → AFun} {f nt : Nat} {env e : AEnv} {A A0 A' : AHeap} {rs : List ResultVar} {F : AF} {ks : List KF} {P : Program}
variable {d s t u i n off id : Nat} {x y z : Operand} {v w : AV} {ty : TypeId} {a b : List UInt8} {k : IntKind}

/-! ### strings -/
@[go_sem] theorem b_sadd (h : a.length + b.length ≤ 1099511627776) : abin P .add t (.d (.str a)) (.d (.str b)) = some (.d (.str (a ++ b))) := by simp [abin, astr, h]
@[go_sem] theorem b_seql : abin P .eql t (.d (.str a)) (.d (.str b)) = some (.d (.bool (a == b))) := by rfl
@[go_sem] theorem b_sneq : abin P .neq t (.d (.str a)) (.d (.str b)) = some (.d (.bool (!(a == b)))) := by rfl
@[go_sem] theorem b_slss : abin P .lss t (.d (.str a)) (.d (.str b)) = some (.d (.bool (Op.bytesLess a b))) := by rfl
@[go_sem] theorem b_beql {p q : Bool} (h : boolT P t = true) : abin P .eql t (.d (.bool p)) (.d (.bool q)) = some (.d (.bool (p == q))) := by simp [abin, h]
@[go_sem] theorem b_bneq {p q : Bool} (h : boolT P t = true) : abin P .neq t (.d (.bool p)) (.d (.bool q)) = some (.d (.bool (!(p == q)))) := by simp [abin, h]
@[go_sem] theorem beq_nn : (([] : List UInt8) == []) = true := by rfl
@[go_sem] theorem beq_cn {x : UInt8} : (x :: a == []) = false := by rfl
@[go_sem] theorem beq_nc {x : UInt8} : ([] == x :: a) = false := by rfl
@[go_sem] theorem one_le_succ {n : Nat} : decide ((1 : Int) ≤ ((n + 1 : Nat) : Int)) = true := by simp; omega
theorem int_deq (a b : Int) : (a == b) = decide (a = b) := by by_cases h : a = b <;> simp [h]
@[go_sem] theorem b_iadd {p q : Int} : abin P .add t (.d (.int k p)) (.d (.int k q)) = some (.d (.int k (k.wrap (p + q)))) := by simp [abin, aarith]
@[go_sem] theorem b_isub {p q : Int} : abin P .sub t (.d (.int k p)) (.d (.int k q)) = some (.d (.int k (k.wrap (p - q)))) := by simp [abin, aarith]
@[go_sem] theorem b_imul {p q : Int} : abin P .mul t (.d (.int k p)) (.d (.int k q)) = some (.d (.int k (k.wrap (p * q)))) := by simp [abin, aarith]
@[go_sem] theorem b_iquo {p q : Int} (h : ¬ q = 0) : abin P .quo t (.d (.int k p)) (.d (.int k q)) = some (.d (.int k (k.wrap (p.tdiv q)))) := by simp [abin, aarith, h]
@[go_sem] theorem b_irem {p q : Int} (h : ¬ q = 0) : abin P .rem t (.d (.int k p)) (.d (.int k q)) = some (.d (.int k (p.tmod q))) := by simp [abin, aarith, h]

/-- structs of plain cells, one cell each -/
def aeqF (ks : List Nat) (xs ys : List AV) : Option Bool := aeqCells ks xs ys
def aeqG (neg : Bool) (r : Option Bool) : Option AV := r.map fun b => .d (.bool (if neg then !b else b))
def aeqT (neg : Bool) (ks : Option (List Nat)) (xs ys : List AV) : Option AV := match ks with
  | some ks => aeqG neg (aeqF ks xs ys)
  | none => none
@[go_sem] theorem b_aeql {xs ys : List AV} : abin P .eql t (.agg xs) (.agg ys) = aeqT false (flatT P t) xs ys := by
  simp only [abin, aeqT, aeqG, aeqF]
  cases flatT P t <;> rfl
@[go_sem] theorem b_aneq {xs ys : List AV} : abin P .neq t (.agg xs) (.agg ys) = aeqT true (flatT P t) xs ys := by
  simp only [abin, aeqT, aeqG, aeqF]
  cases flatT P t <;> rfl
@[go_sem] theorem aeqT_some {ks : List Nat} {xs ys : List AV} {neg : Bool} : aeqT neg (some ks) xs ys = aeqG neg (aeqF ks xs ys) := by rfl
@[go_sem] theorem aeqG_false {b : Bool} : aeqG false (some b) = some (.d (.bool b)) := by rfl
@[go_sem] theorem aeqG_true {b : Bool} : aeqG true (some b) = some (.d (.bool (!b))) := by rfl
def aandR (p : Bool) (r : Option Bool) : Option Bool := r.map (p && ·)
@[go_sem] theorem aandR_some {p q : Bool} : aandR p (some q) = some (p && q) := by rfl
@[go_sem] theorem aeqF_nil : aeqF [] [] [] = some true := by rfl
@[go_sem] theorem aeqF_bool {ks : List Nat} {p q : Bool} {xs ys : List AV} : aeqF (0 :: ks) (.d (.bool p) :: xs) (.d (.bool q) :: ys) = aandR (p == q) (aeqF ks xs ys) := by rfl
@[go_sem] theorem aeqF_int {ks : List Nat} {p q : Int} {xs ys : List AV} : aeqF (1 :: ks) (.d (.int k p) :: xs) (.d (.int k q) :: ys) = aandR (decide (p = q)) (aeqF ks xs ys) := by
  simp only [aeqF, aandR, aeqCells, if_true, int_deq]
@[go_sem] theorem aeqF_str {ks : List Nat} {xs ys : List AV} : aeqF (2 :: ks) (.d (.str a) :: xs) (.d (.str b) :: ys) = aandR (a == b) (aeqF ks xs ys) := by rfl

/-! ### length -/
@[go_sem] theorem bu_len : abuiltin P .len #[t] [v] A = (alen A (lenT P t) v).map fun (n : Nat) => (.d (.int .i64 (n : Int)), A) := by rfl
@[go_sem] theorem alen_str : alen A 1 (.d (.str a)) = some a.length := by rfl
@[go_sem] theorem alen_slice {r : List (List Dat)} : alen A 2 (.d (.slice r)) = some r.length := by rfl
@[go_sem] theorem alen_nilS : alen A 2 .nilS = some 0 := by rfl
@[go_sem] theorem alen_full {r : List (List Dat)} : alen A 2 (.full r) = some r.length := by rfl
@[go_sem] theorem alen_own {p q : Nat} : alen A 2 (.own p q) = some q := by rfl
def alenM (o : Option AObj) : Option Nat := match o with
    | some (.map es) => some es.length
    | _ => none
@[go_sem] theorem alen_mapr : alen A 3 (.mapr id) = alenM A.objs[id]? := by rfl
@[go_sem] theorem alenM_some {es : List (Dat × AV)} : alenM (some (.map es)) = some es.length := by rfl
@[go_sem] theorem natCast_zero : ((0 : Nat) : Int) = 0 := by rfl
@[go_sem] theorem natCast_one : ((1 : Nat) : Int) = 1 := by rfl
def afoldR (f : AV → AV → Option AV) (v : AV) (vs : List AV) (A : AHeap) : Option (AV × AHeap) := (afold f v vs).map (·, A)
@[go_sem] theorem bu_max2 {ts : Array TypeId} {p q : Int} {k' : IntKind} : abuiltin P .max ts [.d (.int k p), .d (.int k' q)] A = some (.d (.int k (if q > p then q else p)), A) := by rfl
@[go_sem] theorem bu_min2 {ts : Array TypeId} {p q : Int} {k' : IntKind} : abuiltin P .min ts [.d (.int k p), .d (.int k' q)] A = some (.d (.int k (if q < p then q else p)), A) := by rfl

/-! ### index -/
def aidxG (c : ACtx) (t : TypeId) (v w : Option AV) : Option AV := match v, w with
    | some (.d (.str s)), some (.d (.int _ n)) => if strT c.P t = true ∧ 0 ≤ n then (s[n.toNat]?).map fun b => .d (.int .u8 b.toNat) else none
    | some (.agg cs), some (.d (.int _ n)) => match arrT c.P t with
      | some (len, sz, agg) => if 0 ≤ n ∧ n < len then apart cs (n.toNat * sz) sz agg else none
      | none => none
    | _, _ => none
@[go_sem] theorem o_index : aslot c call env A (.index t x y) = asv A (aidxG c t (aeval env x) (aeval env y)) := by
  simp only [aslot, aval1, asv]
  generalize aeval env x = v1
  generalize aeval env y = v2
  have none_ok : ∀ {r : Option AV}, r = none → Option.map (fun v => (Slot.v v, A)) r = none := fun h => by rw [h]; rfl
  cases v1 with
  | none => rfl
  | some v =>
    cases v2 with
    | none => cases v with
      | d dd => cases dd <;> rfl
      | _ => rfl
    | some w =>
      cases v with
      | d dd =>
        cases dd with
        | str s =>
          cases w with
          | d dw =>
            cases dw with
            | int k n =>
              simp only [aidxG]
              split
              · cases s[n.toNat]? <;> rfl
              · rfl
            | _ => rfl
          | _ => rfl
        | _ => cases w with
          | d dw => cases dw <;> rfl
          | _ => rfl
      | agg cs =>
        cases w with
        | d dw =>
          cases dw with
          | int k n =>
            simp only [aidxG]
            cases arrT c.P t with
            | none => rfl
            | some q =>
              simp only
              split
              · simp only [Option.map_map]; rfl
              · rfl
          | _ => rfl
        | _ => rfl
      | _ => cases w with
        | d dw => cases dw <;> rfl
        | _ => rfl
@[go_sem] theorem aidxG_str {n : Nat} (h : strT c.P t = true) {r : UInt8} (hr : a[n]? = some r) : aidxG c t (some (.d (.str a))) (some (.d (.int k (n : Int)))) = some (.d (.int .u8 r.toNat)) := by
  simp [aidxG, h, hr]
@[go_sem] theorem aidxG_str0 (h : strT c.P t = true) {r : UInt8} : aidxG c t (some (.d (.str (r :: a)))) (some (.d (.int k 0))) = some (.d (.int .u8 r.toNat)) := by
  simp [aidxG, h]
theorem getElem?_mid {α : Type} {pre suf : List α} {x : α} : (pre ++ x :: suf)[pre.length]? = some x := by simp
@[go_sem] theorem aidxG_strm (h : strT c.P t = true) {r : UInt8} {pre suf : List UInt8} : aidxG c t (some (.d (.str (pre ++ r :: suf)))) (some (.d (.int k (pre.length : Int)))) = some (.d (.int .u8 r.toNat)) :=
  aidxG_str h getElem?_mid

/-- an element of a slice -/
def arowS (sz : Nat) (row : Option (List Dat)) : Option AV := match row with
  | some row => if row.length = sz then some (.sptr row) else none
  | none => none
@[go_sem] theorem aindex_slice {r : List (List Dat)} {n : Nat} : aindex i A (n : Int) (.d (.slice r)) = arowS i r[n]? := by
  simp only [aindex, arows, arowS, Int.natCast_nonneg, if_true, Int.toNat_natCast]
  rfl
@[go_sem] theorem aindex_slice0 {r : List (List Dat)} : aindex i A 0 (.d (.slice r)) = arowS i r[0]? := aindex_slice (n := 0)
@[go_sem] theorem aindex_full {r : List (List Dat)} {n : Nat} : aindex i A (n : Int) (.full r) = arowS i r[n]? := by
  simp only [aindex, arows, arowS, Int.natCast_nonneg, if_true, Int.toNat_natCast]
  rfl
@[go_sem] theorem aindex_full0 {r : List (List Dat)} : aindex i A 0 (.full r) = arowS i r[0]? := aindex_full (n := 0)
@[go_sem] theorem arowS_some {row : List Dat} (h : row.length = n) : arowS n (some row) = some (.sptr row) := by simp [arowS, h]
@[go_sem] theorem map_mid {α β : Type} {f : α → β} {pre suf : List α} {x : α} : ((pre ++ x :: suf).map f)[pre.length]? = some (f x) := by simp
@[go_sem] theorem anilR_sptr {r : List Dat} : anilR (.sptr r) = some (.sptr r) := by rfl
@[go_sem] theorem anilR_eptr {p q r s : Nat} : anilR (.eptr p q r s) = some (.eptr p q r s) := by rfl

/-! ### parts of a string, of a slice -/
def asliL (c : ACtx) (t : TypeId) (v : Option AV) (h : Option AV) : Option AV := match v, h with
  | some v, some (.d (.int _ n)) => match v.plainS with
    | .d (.str s) => if strT c.P t = true ∧ 0 ≤ n ∧ n ≤ s.length then some (.d (.str (s.take n.toNat))) else none
    | .d (.slice r) => if (elemT c.P t).isSome = true ∧ 0 ≤ n ∧ n ≤ r.length then some (.d (.slice (r.take n.toNat))) else none
    | _ => none
  | _, _ => none
theorem o_slice_hi : aslot c call env A (.slice t x none (some y) none) = asv A (asliL c t (aeval env x) (aeval env y)) := by
  simp only [aslot, aval1, asliL, asv, Option.map_none, Option.map_some]
  cases aeval env x with
  | none => rfl
  | some v =>
    simp only [Option.map_some]
    cases aeval env y with
    | none => cases v.plainS <;> first | rfl | (rename_i dd; cases dd <;> rfl)
    | some w =>
      cases w with
      | d dd =>
        cases dd with
        | int k n =>
          simp only
          cases v.plainS with
          | d dd =>
            cases dd with
            | str s => simp only; split <;> rfl
            | slice r => simp only; split <;> rfl
            | _ => rfl
          | _ => rfl
        | _ => cases v.plainS <;> first | rfl | (rename_i dd; cases dd <;> rfl)
      | _ => cases v.plainS <;> first | rfl | (rename_i dd; cases dd <;> rfl)
attribute [go_sem] o_slice_hi
@[go_sem] theorem asliL_slice {r : List (List Dat)} {n : Nat} (h : (elemT c.P t).isSome = true) (hn : n ≤ r.length) : asliL c t (some (.d (.slice r))) (some (.d (.int k (n : Int)))) = some (.d (.slice (r.take n))) := by
  have : (n : Int) ≤ r.length := by exact_mod_cast hn
  simp [asliL, AV.plainS, h, this]
def asliH (c : ACtx) (t : TypeId) (v : Option AV) (h : Option AV) : Option AV := match v, h with
  | some v, some (.d (.int _ n)) => match v.plainS with
    | .d (.str s) => if strT c.P t = true ∧ 0 ≤ n ∧ n ≤ s.length then some (.d (.str (s.drop n.toNat))) else none
    | _ => none
  | _, _ => none

/-! ### structs -/
def afldT (v : Option AV) (q : Option (Nat × Nat × Bool)) : Option AV := match v, q with
    | some (.agg cs), some (off, n, agg) => apart cs off n agg
    | _, _ => none
@[go_sem] theorem o_fieldv : aslot c call env A (.field t x i) = asv A (afldT (aeval env x) (fieldT c.P t i)) := by
  simp only [aslot, aval1, afldT, asv]
  cases aeval env x with
  | none => rfl
  | some v =>
    cases v with
    | agg cs =>
      cases fieldT c.P t i with
      | none => rfl
      | some q => simp only [Option.map_map]; rfl
    | _ => rfl
@[go_sem] theorem afldT_some {cs : List AV} {agg : Bool} : afldT (some (.agg cs)) (some (off, n, agg)) = apart cs off n agg := by rfl
def afillR (z : Option AV) (fs : Option (List (Nat × Nat))) (ps : Option (List (Nat × AV))) : Option AV := match z, fs, ps with
    | some z, some fs, some ps => (afill (fun i => fs[i]?) z.cells ps).map .agg
    | _, _, _ => none
@[go_sem] theorem o_build {ps : Array (Nat × Operand)} : aslot c call env A (.build t ps) = asv A (afillR (zeroT c.P t) (fieldsT c.P t) (aparts env ps.toList)) := by
  simp only [aslot, aval1, afillR, asv]
  cases zeroT c.P t <;> cases fieldsT c.P t <;> cases aparts env ps.toList <;> try rfl
  simp only [Option.map_map]
  rfl
def afillF (fs : List (Nat × Nat)) (cells : List AV) (ps : List (Nat × AV)) : Option (List AV) := afill (fun i => fs[i]?) cells ps
@[go_sem] theorem afillR_some {fs : List (Nat × Nat)} {ps : List (Nat × AV)} : afillR (some v) (some fs) (some ps) = (afillF fs v.cells ps).map .agg := by rfl
@[go_sem] theorem afillF_nil {fs : List (Nat × Nat)} {cells : List AV} : afillF fs cells [] = some cells := by rfl
def afillP (fs : List (Nat × Nat)) (cells : List AV) (vs : List AV) (ps : List (Nat × AV)) (q : Option (Nat × Nat)) : Option (List AV) := match q with
  | some (off, n) => if vs.length = n then (asplice cells off vs).bind fun cs => afillF fs cs ps else none
  | none => none
@[go_sem] theorem afillF_cons {fs : List (Nat × Nat)} {cells : List AV} {ps : List (Nat × AV)} : afillF fs cells ((i, v) :: ps) = afillP fs cells v.cells ps fs[i]? := by
  simp only [afillF, afill, afillP]
  cases fs[i]? <;> rfl
def afillFB (fs : List (Nat × Nat)) (ps : List (Nat × AV)) (r : Option (List AV)) : Option (List AV) := r.bind fun cs => afillF fs cs ps
@[congr] theorem afillFB_congr {fs : List (Nat × Nat)} {ps : List (Nat × AV)} {r r' : Option (List AV)} (h : r = r') : afillFB fs ps r = afillFB fs ps r' := by rw [h]
@[go_sem] theorem afillFB_some {fs : List (Nat × Nat)} {ps : List (Nat × AV)} {cs : List AV} : afillFB fs ps (some cs) = afillF fs cs ps := by rfl
@[go_sem] theorem afillP_some {fs : List (Nat × Nat)} {cells vs : List AV} {ps : List (Nat × AV)} (h : vs.length = n) : afillP fs cells vs ps (some (off, n)) = afillFB fs ps (asplice cells off vs) := by
  simp [afillP, afillFB, h]
def apartsC (i : Nat) (v : Option AV) (ps : Option (List (Nat × AV))) : Option (List (Nat × AV)) := v.bind fun a => ps.map ((i, a) :: ·)
@[go_sem] theorem aparts_nil : aparts env [] = some [] := by rfl
@[go_sem] theorem aparts_cons {ps : List (Nat × Operand)} : aparts env ((i, x) :: ps) = apartsC i (aeval env x) (aparts env ps) := by rfl
@[go_sem] theorem apartsC_some {ps : List (Nat × AV)} : apartsC i (some v) (some ps) = some ((i, v) :: ps) := by rfl

/-! ### slices that are written out -/
/-- plain cells as data -/
def adatL : List AV → Option (List Dat)
  | [] => some []
  | .d x :: vs => (adatL vs).map (x :: ·)
  | .nilS :: vs => (adatL vs).map (.slice [] :: ·)
  | .full r :: vs => (adatL vs).map (.slice r :: ·)
  | _ :: _ => none
theorem adats_L : ∀ {vs : List AV} {ds : List Dat}, adatL vs = some ds → adats A vs = some (ds, A)
  | [], ds, h => by simp only [adatL, Option.some.injEq] at h; subst h; rfl
  | v :: vs, ds, h => by
    cases v with
    | d x =>
      simp only [adatL, Option.map_eq_some_iff] at h
      obtain ⟨es, h1, rfl⟩ := h
      simp [adats, adat, adats_L h1]
    | nilS =>
      simp only [adatL, Option.map_eq_some_iff] at h
      obtain ⟨es, h1, rfl⟩ := h
      simp [adats, adat, adats_L h1]
    | full r =>
      simp only [adatL, Option.map_eq_some_iff] at h
      obtain ⟨es, h1, rfl⟩ := h
      simp [adats, adat, adats_L h1]
    | _ => simp [adatL] at h
def aconsD (x : Dat) (r : Option (List Dat)) : Option (List Dat) := r.map (x :: ·)
@[go_sem] theorem aconsD_some {x : Dat} {l : List Dat} : aconsD x (some l) = some (x :: l) := by rfl
@[go_sem] theorem adatL_nil : adatL [] = some [] := by rfl
@[go_sem] theorem adatL_d {x : Dat} {vs : List AV} : adatL (.d x :: vs) = aconsD x (adatL vs) := by rfl
@[go_sem] theorem adatL_nilS {vs : List AV} : adatL (.nilS :: vs) = aconsD (.slice []) (adatL vs) := by rfl
@[go_sem] theorem adatL_full {r : List (List Dat)} {vs : List AV} : adatL (.full r :: vs) = aconsD (.slice r) (adatL vs) := by rfl
/-- plain data, or the harder case -/
def abslE (A : AHeap) (sz n : Nat) (cs : List AV) (r : Option (List Dat)) : Option (AV × AHeap) := match r with
  | some ds => some (.full (achunk sz n ds), A)
  | none => (adats A cs).map fun r => (.full (achunk sz n r.1), r.2)
@[go_sem] theorem abslE_some {cs : List AV} {sz : Nat} {ds : List Dat} : abslE A sz n cs (some ds) = some (.full (achunk sz n ds), A) := by rfl
theorem abslE_eq {cs : List AV} {sz : Nat} : (adats A cs).map (fun r => (AV.full (achunk sz n r.1), r.2)) = abslE A sz n cs (adatL cs) := by
  unfold abslE
  cases h : adatL cs with
  | none => rfl
  | some ds => rw [adats_L h]; rfl
def abslC (A : AHeap) (sz n : Nat) (cs : Option (List AV)) : Option (AV × AHeap) := match cs with
  | some cs => abslE A sz n cs (adatL cs)
  | none => none
@[go_sem] theorem abslC_some {cs : List AV} {sz : Nat} : abslC A sz n (some cs) = abslE A sz n cs (adatL cs) := by rfl
def afillN (sz : Nat) (cells : List AV) (ps : List (Nat × AV)) : Option (List AV) := afill (fun i => some (i * sz, sz)) cells ps
def abslP (A : AHeap) (sz n : Nat) (z : Option AV) (ps : List (Nat × AV)) : Option (AV × AHeap) := match z with
      | some z => if z.cells.length = sz ∧ 0 < sz ∧ n * sz ≤ 16777216 then abslC A sz n (afillN sz (List.replicate n z.cells).flatten ps) else none
      | none => none
@[go_sem] theorem abslP_some {sz : Nat} {ps : List (Nat × AV)} (h1 : v.cells.length = sz) (h2 : 0 < sz) (h3 : n * sz ≤ 16777216) : abslP A sz n (some v) ps = abslC A sz n (afillN sz (List.replicate n v.cells).flatten ps) := by
  simp [abslP, h1, h2, h3]
def abslT (P : Program) (A : AHeap) (n : Nat) (e : Option (TypeId × Nat)) (ps : Option (List (Nat × AV))) : Option (AV × AHeap) := match e, ps with
    | some e, some ps => abslP A e.2 n (zeroT P e.1) ps
    | _, _ => none
@[go_sem] theorem abslT_some {ps : List (Nat × AV)} {sz : Nat} : abslT P A n (some (t, sz)) (some ps) = abslP A sz n (zeroT P t) ps := by rfl
@[go_sem] theorem o_buildSlice {ps : Array (Nat × Operand)} : aslot c call env A (.buildSlice t n ps) = asv2 (abslT c.P A n (elemT c.P t) (aparts env ps.toList)) := by
  simp only [aslot, aval1, asv2, abslT, abslP, abslC, afillN]
  cases elemT c.P t with
  | none => rfl
  | some e =>
    cases aparts env ps.toList with
    | none => rfl
    | some ps =>
      simp only
      cases zeroT c.P e.1 with
      | none => rfl
      | some z =>
        simp only
        split
        · cases afill _ _ _ with
          | none => rfl
          | some cs => simp only [Option.bind_some]; rw [abslE_eq]
        · rfl
@[go_sem] theorem afillN_nil {sz : Nat} {cells : List AV} : afillN sz cells [] = some cells := by rfl
def afillNB (sz : Nat) (ps : List (Nat × AV)) (r : Option (List AV)) : Option (List AV) := r.bind fun cs => afillN sz cs ps
@[congr] theorem afillNB_congr {sz : Nat} {ps : List (Nat × AV)} {r r' : Option (List AV)} (h : r = r') : afillNB sz ps r = afillNB sz ps r' := by rw [h]
@[go_sem] theorem afillNB_some {sz : Nat} {ps : List (Nat × AV)} {cs : List AV} : afillNB sz ps (some cs) = afillN sz cs ps := by rfl
@[go_sem] theorem afillN_cons {sz : Nat} {cells : List AV} {ps : List (Nat × AV)} (h : v.cells.length = sz) : afillN sz cells ((i, v) :: ps) = afillNB sz ps (asplice cells (i * sz) v.cells) := by
  simp [afillN, afillNB, afill, h]
attribute [go_sem] achunk
@[go_sem] theorem rep_flat_zero {l : List AV} : (List.replicate 0 l).flatten = [] := by rfl
@[go_sem] theorem rep_flat_succ {l : List AV} : (List.replicate (n + 1) l).flatten = l ++ (List.replicate n l).flatten := by simp [List.replicate_succ]
@[go_sem] theorem rep_flat_one {l : List AV} : (List.replicate 1 l).flatten = l := by simp

/-! ### append -/
/-- a slice that grows, when nothing else has a hold on it: nothing yet, or the slice tok of the heap -/
def agrow (A : AHeap) (e sz : Nat) (rows : List (List Dat)) : AV × AHeap :=
  if rows = [] then (.nilS, A) else (.own A.bufs.length rows.length, { A with bufs := A.bufs ++ [⟨e, sz, rows, 0⟩] })
theorem agrow_append {sz ty : Nat} {rows src : List (List Dat)} (hr : aroomT P ty sz = true) (hs : src.all (fun r => r.length == sz) = true) (hn : rows.length + src.length ≤ 4194304) :
    aappend P ty sz (agrow A ty sz rows).2 (agrow A ty sz rows).1 src = some (agrow A ty sz (rows ++ src)) := by
  unfold agrow aappend
  rw [if_pos ⟨hr, hs⟩]
  by_cases h : rows = []
  · subst h
    by_cases h' : src = []
    · subst h'; simp
    · simp only [if_true, List.nil_append, if_neg h']
      rw [if_pos (by simpa using hn)]
  · simp only [if_neg h]
    have hne : ¬ (rows ++ src = []) := by simp [h]
    simp only [if_neg hne]
    simp [hn]
def aappT (P : Program) (A : AHeap) (v w : AV) (same : Bool) (e : Option (TypeId × Nat)) : Option (AV × AHeap) := if same then (match e with
      | some e => (arows A w).bind fun src => aappend P e.1 e.2 A v src
      | none => none) else none
@[go_sem] theorem bu_append : abuiltin P .append #[t, u] [v, w] A = aappT P A v w (decide (t = u)) (elemT P t) := by
  simp only [abuiltin, aappT]
  by_cases h : t = u
  · simp only [h, decide_true, if_true]; rfl
  · simp only [h, decide_false, if_false]; rfl
def aappR (P : Program) (e sz : Nat) (A : AHeap) (v : AV) (src : Option (List (List Dat))) : Option (AV × AHeap) := src.bind fun src => aappend P e sz A v src
@[go_sem] theorem aappT_some {e : TypeId} {sz : Nat} : aappT P A v w true (some (e, sz)) = aappR P e sz A v (arows A w) := by rfl
@[go_sem] theorem aappR_some {e sz : Nat} {src : List (List Dat)} : aappR P e sz A v (some src) = aappend P e sz A v src := by rfl
@[go_sem] theorem arows_slice {r : List (List Dat)} : arows A (.d (.slice r)) = some r := by rfl
@[go_sem] theorem arows_nilS : arows A .nilS = some [] := by rfl
@[go_sem] theorem arows_full {r : List (List Dat)} : arows A (.full r) = some r := by rfl

/-! ### closures -/
def amkfR (fn : Fn) (a b : Option (List AV)) : Option AV := match a, b with
    | some a, some b => some (.func fn a b)
    | _, _ => none
@[go_sem] theorem o_makeFunc {fn : Fn} {p q : Array Operand} : aslot c call env A (.makeFunc fn p q) = asv A (amkfR fn (aevals env p.toList) (aevals env q.toList)) := by
  simp only [aslot, aval1, asv, amkfR]
  cases aevals env p.toList <;> cases aevals env q.toList <;> rfl
@[go_sem] theorem amkfR_some {fn : Fn} {p q : List AV} : amkfR fn (some p) (some q) = some (.func fn p q) := by rfl

/-! ### the heap -/
@[go_sem] theorem get_behind {α : Type} {l m : List α} {n : Nat} : (l ++ m)[l.length + n]? = m[n]? := by rw [List.getElem?_append_right (by omega)]; congr 1; omega
@[go_sem] theorem get_behind0 {α : Type} {l m : List α} : (l ++ m)[l.length]? = m[0]? := by rw [List.getElem?_append_right (by omega)]; congr 1; omega
@[go_sem] theorem set_behind {α : Type} {l m : List α} {n : Nat} {x : α} : (l ++ m).set (l.length + n) x = l ++ m.set n x := by
  rw [List.set_append_right _ _ (by omega)]; congr 2; omega
@[go_sem] theorem set_behind0 {α : Type} {l m : List α} {x : α} : (l ++ m).set l.length x = l ++ m.set 0 x := by
  rw [List.set_append_right _ _ (by omega)]; congr 2; omega
attribute [go_sem] List.append_assoc List.length_append List.set_cons_zero List.set_cons_succ List.length_map
@[go_sem] theorem heap_eta : (⟨A.objs, A.bufs⟩ : AHeap) = A := by rfl
end
end Go.Abs
