/- The equations of the abstract machine without fuel. -/
import Derived.Test.YtfoibmfocmjmdaaAbs
set_option linter.unusedVariables false
set_option linter.unusedSimpArgs false
set_option linter.all false
set_option linter.deprecated false
namespace Go.Abs

def CLe (a b : FuncId → AFun) : Prop := ∀ f args A r, a f args A = some r → b f args A = some r

theorem CLe.refl (a : FuncId → AFun) : CLe a a := fun _ _ _ _ h => h

section mono
variable {c : ACtx} {a b : FuncId → AFun} (h : CLe a b)
include h

theorem aval1_mono {env : AEnv} {A : AHeap} {op : Op} {r} (e : aval1 c a env A op = some r) : aval1 c b env A op = some r := by
  cases op <;> try exact e
  case makeMap t r => cases r <;> exact e
  case slice t x lo hi mx => cases mx <;> exact e
  case call cl =>
    simp only [aval1] at e ⊢
    split
    · rename_i g hg
      simp only [hg] at e
      split
      · rename_i f first cap args hf ha
        simp only [hf, ha] at e
        exact h _ _ _ _ e
      · rename_i hno
        split at e
        · rename_i f first cap args hf ha
          exact absurd ha (hno f first cap args hf)
        · cases e
    · rename_i bb hb
      simp only [hb] at e
      exact e
    · rename_i hb1 hb2
      split at e
      · rename_i g hg; exact absurd hg (hb1 g)
      · rename_i bb hb; exact absurd hb (hb2 bb)
      · exact e

theorem aslot_mono {env : AEnv} {A : AHeap} {op : Op} {r} (e : aslot c a env A op = some r) : aslot c b env A op = some r := by
  cases op <;> try exact e
  all_goals
    simp only [aslot] at e ⊢
    rw [Option.map_eq_some_iff] at e ⊢
    obtain ⟨s, hs, ht⟩ := e
    exact ⟨s, aval1_mono h hs, ht⟩

theorem aeff_mono {f : Nat} {o : Oper} {env : AEnv} {A : AHeap} {r} (e : aeff c a f o env A = some r) : aeff c b f o env A = some r := by
  obtain ⟨dst, op, type, pos, after, g⟩ := o
  cases op <;> try exact e
  all_goals
    simp only [aeff] at e ⊢
    rw [Option.map_eq_some_iff] at e ⊢
    obtain ⟨s, hs, ht⟩ := e
    exact ⟨s, aslot_mono h hs, ht⟩

theorem aop_mono {f nt : Nat} {o : Oper} {env : AEnv} {A : AHeap} {r} (e : aop c a f nt o env A = some r) : aop c b f nt o env A = some r := by
  unfold aop at e ⊢
  rw [Option.bind_eq_some_iff] at e ⊢
  obtain ⟨s, hs, ht⟩ := e
  exact ⟨s, aeff_mono h hs, ht⟩

theorem astep_mono {f nt : Nat} {ops : Array Oper} {o : Oper} {env : AEnv} {A : AHeap} {r} (e : astep c a f nt ops o env A = some r) : astep c b f nt ops o env A = some r := by
  unfold astep at e ⊢
  rw [Option.bind_eq_some_iff] at e ⊢
  obtain ⟨s, hs, ht⟩ := e
  refine ⟨s, hs, ?_⟩
  cases s
  · exact ht
  · exact aop_mono h ht

theorem aops_mono {f nt : Nat} {ops : Array Oper} : ∀ (l : List Oper) {env : AEnv} {A : AHeap} {r}, aops c a f nt ops l env A = some r → aops c b f nt ops l env A = some r
  | [], _, _, _, e => e
  | o :: l, env, A, r, e => by
    simp only [aops] at e ⊢
    rw [Option.bind_eq_some_iff] at e ⊢
    obtain ⟨s, hs, ht⟩ := e
    exact ⟨s, astep_mono h hs, aops_mono l ht⟩

theorem atrace_mono {f nt : Nat} {ops : Array Oper} : ∀ (l : List Oper) {i : Nat} {env : AEnv} {A : AHeap} {r}, atrace c a f nt ops i l env A = some r → atrace c b f nt ops i l env A = some r
  | [], _, _, _, _, e => e
  | o :: l, i, env, A, r, e => by
    simp only [atrace] at e ⊢
    rw [Option.bind_eq_some_iff] at e ⊢
    obtain ⟨s, hs, ht⟩ := e
    refine ⟨s, hs, ?_⟩
    cases s
    · simp only [Bool.false_eq_true, if_false] at ht ⊢
      rw [Option.bind_eq_some_iff] at ht ⊢
      obtain ⟨u, hu, hv⟩ := ht
      exact ⟨u, hu, atrace_mono l hv⟩
    · simp only [if_true] at ht ⊢
      rw [Option.bind_eq_some_iff] at ht ⊢
      obtain ⟨u, hu, hv⟩ := ht
      rw [Option.map_eq_some_iff] at hv
      obtain ⟨w, hw, hx⟩ := hv
      refine ⟨u, aop_mono h hu, ?_⟩
      rw [Option.map_eq_some_iff]
      exact ⟨w, atrace_mono l hw, hx⟩

theorem aregion_mono {f nt : Nat} {ops : Array Oper} {draw : Bool} {env : AEnv} {A : AHeap} {r} (e : aregion c a f nt ops draw env A = some r) : aregion c b f nt ops draw env A = some r := by
  unfold aregion at e ⊢
  cases draw
  · simp only [Bool.false_eq_true, if_false] at e ⊢
    exact aops_mono h _ e
  · simp only [if_true] at e ⊢
    rw [Option.bind_eq_some_iff] at e ⊢
    obtain ⟨s, hs, ht⟩ := e
    exact ⟨s, atrace_mono h _ hs, ht⟩
end mono

theorem aloop_mono {p q : AEnv → AHeap → ARes} {t : AEnv → AEnv} (h : ∀ env A r, p env A = some r → q env A = some r) :
    ∀ {n m : Nat}, n ≤ m → ∀ {env : AEnv} {A : AHeap} {r}, aloop p t n env A = some r → aloop q t m env A = some r
  | 0, _, _, _, _, _, e => by simp [aloop] at e
  | n + 1, 0, hn, _, _, _, _ => by omega
  | n + 1, m + 1, hn, env, A, r, e => by
    simp only [aloop] at e ⊢
    rw [Option.bind_eq_some_iff] at e ⊢
    obtain ⟨s, hs, ht⟩ := e
    refine ⟨s, h _ _ _ hs, ?_⟩
    split
    · rename_i hx
      simp only [hx] at ht
      exact aloop_mono h (by omega) ht
    · rename_i hx
      split at ht
      · rename_i hy; exact absurd hy hx
      · exact ht

theorem acode_mono {c : ACtx} {a b : FuncId → AFun} (h : CLe a b) {f nt n m : Nat} (hn : n ≤ m) : ∀ (code : Code) {env : AEnv} {A : AHeap} {r},
    acode c a f nt n code env A = some r → acode c b f nt m code env A = some r := by
  intro code
  induction code with
  | region id ops draw =>
    intro env A r e
    simp only [acode] at e ⊢
    rw [Option.map_eq_some_iff] at e ⊢
    obtain ⟨s, hs, ht⟩ := e
    exact ⟨s, aregion_mono h hs, ht⟩
  | seq x y ihx ihy =>
    intro env A r e
    simp only [acode] at e ⊢
    rw [Option.bind_eq_some_iff] at e ⊢
    obtain ⟨s, hs, ht⟩ := e
    refine ⟨s, ihx hs, ?_⟩
    split
    · rename_i hx
      simp only [hx] at ht
      exact ihy ht
    · rename_i hx
      split at ht
      · rename_i hy; exact absurd hy hx
      · exact ht
  | cond v x y ihx ihy =>
    intro env A r e
    simp only [acode] at e ⊢
    split
    · rename_i bb hb
      simp only [hb] at e
      cases bb
      · exact ihy e
      · exact ihx e
    · rename_i hno
      split at e
      · rename_i bb hb; exact absurd hb (hno bb)
      · exact e
  | block id x ih =>
    intro env A r e
    simp only [acode] at e ⊢
    rw [Option.map_eq_some_iff] at e ⊢
    obtain ⟨s, hs, ht⟩ := e
    exact ⟨s, ih hs, ht⟩
  | loop x ih =>
    intro env A r e
    simp only [acode] at e ⊢
    exact aloop_mono (fun _ _ _ => ih) hn e
  | _ => intro env A r e; first | exact e | (simp [acode] at e; done)

theorem abody_mono {c : ACtx} {a b : FuncId → AFun} (h : CLe a b) {n m : Nat} (hn : n ≤ m) {f args A r} (e : abody c a n f args A = some r) : abody c b m f args A = some r := by
  unfold abody at e ⊢
  split
  · rename_i g hg; simp only [hg] at e; exact e
  · rename_i hg
    simp only [hg] at e
    split
    · rename_i hf; simp only [hf] at e; exact e
    · rename_i fn hf
      simp only [hf] at e
      split
      · rename_i hb; simp only [hb] at e; exact e
      · rename_i code hb
        simp only [hb] at e
        split
        · rename_i hc
          rw [if_pos hc] at e
          dsimp only at e ⊢
          rw [Option.bind_eq_some_iff] at e ⊢
          obtain ⟨s, hs, ht⟩ := e
          exact ⟨s, acode_mono h hn _ hs, ht⟩
        · rename_i hc
          rw [if_neg hc] at e
          exact e

theorem aclF_mono {c : ACtx} : ∀ {n m : Nat}, n ≤ m → CLe (aclF c n) (aclF c m)
  | 0, _, _ => fun _ _ _ _ e => by simp [aclF] at e
  | n + 1, 0, h => by omega
  | n + 1, m + 1, h => fun f args A r e => by
    simp only [aclF] at e ⊢
    exact abody_mono (aclF_mono (by omega)) (by omega) e

open Classical in
noncomputable def alim {α : Type} (g : Nat → Option α) : Option α := if h : ∃ r n, g n = some r then some h.choose else none

theorem alim_some {α : Type} {g : Nat → Option α} (hg : ∀ {n m r}, n ≤ m → g n = some r → g m = some r) {r : α} : alim g = some r ↔ ∃ n, g n = some r := by
  unfold alim
  constructor
  · intro e
    split at e
    · rename_i h
      cases e
      exact h.choose_spec
    · cases e
  · rintro ⟨n, hn⟩
    have hex : ∃ r n, g n = some r := ⟨r, n, hn⟩
    rw [dif_pos hex]
    obtain ⟨m, hm⟩ := hex.choose_spec
    have h1 := hg (Nat.le_max_left n m) hn
    have h2 := hg (Nat.le_max_right n m) hm
    rw [h1] at h2
    exact congrArg some (Option.some.inj h2).symm

/-- the call, without fuel -/
noncomputable def acl (c : ACtx) (f : FuncId) : AFun := fun args A => alim fun n => aclF c n f args A

theorem acl_some {c : ACtx} {f args A r} : acl c f args A = some r ↔ ∃ n, aclF c n f args A = some r :=
  alim_some fun h e => aclF_mono h _ _ _ _ e

theorem aclF_le (c : ACtx) (n : Nat) : CLe (aclF c n) (acl c) := fun _ _ _ _ e => acl_some.2 ⟨n, e⟩

/-- code, without fuel -/
noncomputable def ax (c : ACtx) (f nt : Nat) (code : Code) (env : AEnv) (A : AHeap) : ARes := alim fun n => acode c (aclF c n) f nt n code env A

theorem ax_some {c : ACtx} {f nt : Nat} {code : Code} {env A r} : ax c f nt code env A = some r ↔ ∃ n, acode c (aclF c n) f nt n code env A = some r :=
  alim_some fun h e => acode_mono (aclF_mono h) h _ e

section cont
variable {c c0 : ACtx}

theorem aval1_cont {env : AEnv} {A : AHeap} {op : Op} {r} (e : aval1 c0 (acl c) env A op = some r) : ∃ n, aval1 c0 (aclF c n) env A op = some r := by
  cases op <;> try exact ⟨0, e⟩
  case makeMap t r => cases r <;> exact ⟨0, e⟩
  case slice t x lo hi mx => cases mx <;> exact ⟨0, e⟩
  case call cl =>
    simp only [aval1] at e ⊢
    split at e
    · rename_i g hg
      split at e
      · rename_i f first cap args hf ha
        exact acl_some.1 e
      · cases e
    · exact ⟨0, e⟩
    · cases e

theorem aslot_cont {env : AEnv} {A : AHeap} {op : Op} {r} (e : aslot c0 (acl c) env A op = some r) : ∃ n, aslot c0 (aclF c n) env A op = some r := by
  cases op <;> try exact ⟨0, e⟩
  all_goals
    simp only [aslot] at e ⊢
    rw [Option.map_eq_some_iff] at e
    obtain ⟨s, hs, ht⟩ := e
    obtain ⟨n, hn⟩ := aval1_cont hs
    exact ⟨n, by rw [Option.map_eq_some_iff]; exact ⟨s, hn, ht⟩⟩

theorem aeff_cont {f : Nat} {o : Oper} {env : AEnv} {A : AHeap} {r} (e : aeff c0 (acl c) f o env A = some r) : ∃ n, aeff c0 (aclF c n) f o env A = some r := by
  obtain ⟨dst, op, type, pos, after, g⟩ := o
  cases op <;> try exact ⟨0, e⟩
  all_goals
    simp only [aeff] at e ⊢
    rw [Option.map_eq_some_iff] at e
    obtain ⟨s, hs, ht⟩ := e
    obtain ⟨n, hn⟩ := aslot_cont hs
    exact ⟨n, by rw [Option.map_eq_some_iff]; exact ⟨s, hn, ht⟩⟩

theorem aop_cont {f nt : Nat} {o : Oper} {env : AEnv} {A : AHeap} {r} (e : aop c0 (acl c) f nt o env A = some r) : ∃ n, aop c0 (aclF c n) f nt o env A = some r := by
  unfold aop at e ⊢
  rw [Option.bind_eq_some_iff] at e
  obtain ⟨s, hs, ht⟩ := e
  obtain ⟨n, hn⟩ := aeff_cont hs
  exact ⟨n, by rw [Option.bind_eq_some_iff]; exact ⟨s, hn, ht⟩⟩

theorem aops_cont {f nt : Nat} {ops : Array Oper} : ∀ (l : List Oper) {env : AEnv} {A : AHeap} {r}, aops c0 (acl c) f nt ops l env A = some r → ∃ n, aops c0 (aclF c n) f nt ops l env A = some r
  | [], _, _, _, e => ⟨0, e⟩
  | o :: l, env, A, r, e => by
    simp only [aops] at e ⊢
    rw [Option.bind_eq_some_iff] at e
    obtain ⟨s, hs, ht⟩ := e
    have h1 : ∃ n, astep c0 (aclF c n) f nt ops o env A = some s := by
      unfold astep at hs ⊢
      rw [Option.bind_eq_some_iff] at hs
      obtain ⟨b, hb, hs⟩ := hs
      cases b
      · exact ⟨0, by rw [Option.bind_eq_some_iff]; exact ⟨_, hb, hs⟩⟩
      · obtain ⟨n, hn⟩ := aop_cont hs
        exact ⟨n, by rw [Option.bind_eq_some_iff]; exact ⟨_, hb, hn⟩⟩
    obtain ⟨n, hn⟩ := h1
    obtain ⟨m, hm⟩ := aops_cont l ht
    exact ⟨max n m, by
      rw [Option.bind_eq_some_iff]
      exact ⟨s, astep_mono (aclF_mono (Nat.le_max_left _ _)) hn, aops_mono (aclF_mono (Nat.le_max_right _ _)) _ hm⟩⟩

theorem atrace_cont {f nt : Nat} {ops : Array Oper} : ∀ (l : List Oper) {i : Nat} {env : AEnv} {A : AHeap} {r}, atrace c0 (acl c) f nt ops i l env A = some r → ∃ n, atrace c0 (aclF c n) f nt ops i l env A = some r
  | [], _, _, _, _, e => ⟨0, e⟩
  | o :: l, i, env, A, r, e => by
    simp only [atrace] at e ⊢
    rw [Option.bind_eq_some_iff] at e
    obtain ⟨s, hs, ht⟩ := e
    cases s
    · simp only [Bool.false_eq_true, if_false] at ht
      rw [Option.bind_eq_some_iff] at ht
      obtain ⟨u, hu, hv⟩ := ht
      obtain ⟨n, hn⟩ := atrace_cont l hv
      refine ⟨n, ?_⟩
      rw [Option.bind_eq_some_iff]
      refine ⟨_, hs, ?_⟩
      simp only [Bool.false_eq_true, if_false]
      rw [Option.bind_eq_some_iff]
      exact ⟨_, hu, hn⟩
    · simp only [if_true] at ht
      rw [Option.bind_eq_some_iff] at ht
      obtain ⟨u, hu, hv⟩ := ht
      rw [Option.map_eq_some_iff] at hv
      obtain ⟨w, hw, hx⟩ := hv
      obtain ⟨n, hn⟩ := aop_cont hu
      obtain ⟨m, hm⟩ := atrace_cont l hw
      refine ⟨max n m, ?_⟩
      rw [Option.bind_eq_some_iff]
      refine ⟨_, hs, ?_⟩
      simp only [if_true]
      rw [Option.bind_eq_some_iff]
      refine ⟨_, aop_mono (aclF_mono (Nat.le_max_left _ _)) hn, ?_⟩
      rw [Option.map_eq_some_iff]
      exact ⟨_, atrace_mono (aclF_mono (Nat.le_max_right _ _)) _ hm, hx⟩

theorem aregion_cont {f nt : Nat} {ops : Array Oper} {draw : Bool} {env : AEnv} {A : AHeap} {r} (e : aregion c (acl c) f nt ops draw env A = some r) : ∃ n, aregion c (aclF c n) f nt ops draw env A = some r := by
  unfold aregion at e ⊢
  cases draw
  · simp only [Bool.false_eq_true, if_false] at e ⊢
    exact aops_cont _ e
  · simp only [if_true] at e ⊢
    rw [Option.bind_eq_some_iff] at e
    obtain ⟨s, hs, ht⟩ := e
    obtain ⟨n, hn⟩ := atrace_cont _ hs
    exact ⟨n, by rw [Option.bind_eq_some_iff]; exact ⟨s, hn, ht⟩⟩
end cont

section eqs
variable {c : ACtx} {f nt : Nat} {env : AEnv} {A : AHeap}

theorem ax_skip : ax c f nt .skip env A = some (.normal, env, A) := ax_some.2 ⟨0, rfl⟩
theorem ax_exit {id : Nat} : ax c f nt (.exit id) env A = some (.exit id, env, A) := ax_some.2 ⟨0, rfl⟩
theorem ax_ret : ax c f nt .ret env A = some (.ret, env, A) := ax_some.2 ⟨0, rfl⟩

theorem ax_region {id : Nat} {ops : Array Oper} {draw : Bool} :
    ax c f nt (.region id ops draw) env A = (aregion c (acl c) f nt ops draw (atrim c f (some id) env) A).map fun r => (.normal, r.1, r.2) := by
  apply Option.ext
  intro r
  rw [ax_some]
  simp only [acode, Option.map_eq_some_iff]
  constructor
  · rintro ⟨n, s, hs, ht⟩
    exact ⟨s, aregion_mono (aclF_le c n) hs, ht⟩
  · rintro ⟨s, hs, ht⟩
    obtain ⟨n, hn⟩ := aregion_cont hs
    exact ⟨n, s, hn, ht⟩

theorem ax_seq {x y : Code} : ax c f nt (.seq x y) env A = (ax c f nt x env A).bind fun r => match r.1 with
    | .normal => ax c f nt y r.2.1 r.2.2
    | _ => some r := by
  apply Option.ext
  intro r
  rw [ax_some]
  simp only [acode, Option.bind_eq_some_iff]
  constructor
  · rintro ⟨n, s, hs, ht⟩
    refine ⟨s, ax_some.2 ⟨n, hs⟩, ?_⟩
    split
    · rename_i hx; simp only [hx] at ht; exact ax_some.2 ⟨n, ht⟩
    · rename_i hx
      split at ht
      · rename_i hy; exact absurd hy hx
      · exact ht
  · rintro ⟨s, hs, ht⟩
    obtain ⟨n, hn⟩ := ax_some.1 hs
    split at ht
    · rename_i hx
      obtain ⟨m, hm⟩ := ax_some.1 ht
      refine ⟨max n m, s, acode_mono (aclF_mono (Nat.le_max_left _ _)) (Nat.le_max_left _ _) _ hn, ?_⟩
      simp only [hx]
      exact acode_mono (aclF_mono (Nat.le_max_right _ _)) (Nat.le_max_right _ _) _ hm
    · rename_i hx
      refine ⟨n, s, hn, ?_⟩
      split
      · rename_i hy; exact absurd hy hx
      · exact ht

theorem ax_cond {v : Operand} {x y : Code} {b : Bool} (hb : aeval env v = some (.d (.bool b))) :
    ax c f nt (.cond v x y) env A = if b = true then ax c f nt x env A else ax c f nt y env A := by
  apply Option.ext
  intro r
  rw [ax_some]
  simp only [acode, hb]
  cases b
  · simp only [Bool.false_eq_true, if_false]; rw [ax_some]
  · simp only [if_true]; rw [ax_some]

theorem ax_block {id : Nat} {x : Code} : ax c f nt (.block id x) env A = (ax c f nt x env A).map fun r => match r.1 with
    | .exit j => if j = id then (.normal, r.2) else r
    | _ => r := by
  apply Option.ext
  intro r
  rw [ax_some]
  simp only [acode, Option.map_eq_some_iff]
  constructor
  · rintro ⟨n, s, hs, ht⟩
    exact ⟨s, ax_some.2 ⟨n, hs⟩, ht⟩
  · rintro ⟨s, hs, ht⟩
    obtain ⟨n, hn⟩ := ax_some.1 hs
    exact ⟨n, s, hn, ht⟩

theorem ax_loop {x : Code} : ax c f nt (.loop x) env A = (ax c f nt x (atrim c f (firstRegion x) env) A).bind fun r => match r.1 with
    | .normal => ax c f nt (.loop x) r.2.1 r.2.2
    | _ => some r := by
  apply Option.ext
  intro r
  rw [ax_some]
  simp only [Option.bind_eq_some_iff]
  constructor
  · rintro ⟨n, hn⟩
    simp only [acode] at hn
    cases n with
    | zero => simp [aloop] at hn
    | succ n =>
      simp only [aloop, Option.bind_eq_some_iff] at hn
      obtain ⟨s, hs, ht⟩ := hn
      refine ⟨s, ax_some.2 ⟨n + 1, hs⟩, ?_⟩
      split
      · rename_i hx
        simp only [hx] at ht
        refine ax_some.2 ⟨n + 1, ?_⟩
        simp only [acode]
        exact aloop_mono (fun _ _ _ e => e) (by omega) ht
      · rename_i hx
        split at ht
        · rename_i hy; exact absurd hy hx
        · exact ht
  · rintro ⟨s, hs, ht⟩
    obtain ⟨n, hn⟩ := ax_some.1 hs
    split at ht
    · rename_i hx
      obtain ⟨m, hm⟩ := ax_some.1 ht
      refine ⟨max n m + 1, ?_⟩
      simp only [acode, aloop, Option.bind_eq_some_iff]
      refine ⟨s, acode_mono (aclF_mono (by omega)) (by omega) _ hn, ?_⟩
      simp only [hx]
      simp only [acode] at hm
      exact aloop_mono (fun _ _ _ e => acode_mono (aclF_mono (by omega)) (by omega) _ e) (by omega) hm
    · rename_i hx
      refine ⟨n + 1, ?_⟩
      simp only [acode, aloop, Option.bind_eq_some_iff]
      refine ⟨s, acode_mono (aclF_mono (by omega)) (by omega) _ hn, ?_⟩
      split
      · rename_i hy; exact absurd hy hx
      · exact ht

theorem acl_ext {g : AFun} {args : List AV} (hg : c.ext f = some g) : acl c f args A = g args A := by
  apply Option.ext
  intro r
  rw [acl_some]
  constructor
  · rintro ⟨n, hn⟩
    cases n with
    | zero => simp [aclF] at hn
    | succ n => simpa [aclF, abody, hg] using hn
  · intro e
    exact ⟨1, by simpa [aclF, abody, hg] using e⟩

theorem acl_eq {fn : Func} {code : Code} {args : List AV} (hg : c.ext f = none) (hf : c.P.funcs[f]? = some fn) (hb : fn.body = some code) (hk : fnOk c.P f = true) (hn : args.length ≤ fn.ntmps) :
    acl c f args A = (ax c f fn.ntmps code (aenter 0 (if c.own f then (args, A) else acleanVs A args).1) (if c.own f then (args, A) else acleanVs A args).2).bind fun x => match x.1 with
      | .exit _ => none
      | _ => (aresults c x.2.1 x.2.2 fn.results.toList).map fun v => afinish c f A v x.2.2 := by
  apply Option.ext
  intro r
  rw [acl_some]
  simp only [Option.bind_eq_some_iff]
  constructor
  · rintro ⟨n, e⟩
    cases n with
    | zero => simp [aclF] at e
    | succ n =>
      simp only [aclF, abody, hg, hf, hb, hk, hn, and_self, if_true, Option.bind_eq_some_iff] at e
      obtain ⟨s, hs, ht⟩ := e
      exact ⟨s, ax_some.2 ⟨n, hs⟩, ht⟩
  · rintro ⟨s, hs, ht⟩
    obtain ⟨n, hn'⟩ := ax_some.1 hs
    refine ⟨n + 1, ?_⟩
    simp only [aclF, abody, hg, hf, hb, hk, hn, and_self, if_true, Option.bind_eq_some_iff]
    exact ⟨s, hn', ht⟩
end eqs

end Go.Abs
