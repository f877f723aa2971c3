import Derived.Test.YtemiffhfijlcaaaVSnd5
set_option linter.unusedSimpArgs false
set_option linter.unusedVariables false
set_option linter.unusedSectionVars false
/-! Operations in their regions. -/
namespace Go.V
open Go Go.RowKit

/-- The slots told, and what they hold. -/
structure ER (ρ : Rho) (nt : Nat) (e : Env) (a : Act) : Prop where
  get : ∀ t v, e.get t = some v → ∃ x, a.tmps[t]? = some x ∧ VR ρ v x
  size : nt ≤ a.tmps.size
  defers : a.defers = []

section
variable {P : Program} {W0 : World} {ρ : Rho} {h : H} {w : World} {nt : Nat} {e : Env} {a : Act}

theorem ER.mono {ρ' : Rho} (E : ER ρ nt e a) (hle : ρ.le ρ') : ER ρ' nt e a :=
  ⟨fun t v ht => let ⟨x, hx, hr⟩ := E.get t v ht; ⟨x, hx, hr.mono hle⟩, E.size, E.defers⟩
theorem ER.put (E : ER ρ nt e a) (dst : Option Nat) (hd : ∀ d, dst = some d → d < nt) {v : AV} {x : Value} (hv : VR ρ v x) : ER ρ nt (e.put dst v) (a.put dst x) := by
  cases dst with
  | none => exact E
  | some d =>
    have hlt := Nat.lt_of_lt_of_le (hd d rfl) E.size
    refine ⟨fun t u ht => ?_, by simpa [Act.put] using E.size, E.defers⟩
    simp only [Env.put, Env.get] at ht
    split at ht
    · rename_i e; subst e; cases ht
      exact ⟨x, by simp [Act.put, hlt], hv⟩
    · rename_i hne
      obtain ⟨y, hy, hr⟩ := E.get t u ht
      exact ⟨y, by simpa [Act.put, Array.getElem?_setIfInBounds_ne hne] using hy, hr⟩
theorem Env.get_keep (e : Env) : ∀ (l : List Nat) (t : Nat) (v : AV), (e.keep l).get t = some v → e.get t = some v
  | [], t, v, h => by simp [Env.keep, Env.get] at h
  | n :: ns, t, v, h => by
    simp only [Env.keep] at h
    split at h
    · rename_i u hu
      simp only [Env.get] at h
      split at h
      · rename_i e; subst e; rw [hu]; exact h
      · exact Env.get_keep e ns t v h
    · exact Env.get_keep e ns t v h
theorem ER.keep (E : ER ρ nt e a) (l : List Nat) : ER ρ nt (e.keep l) a :=
  ⟨fun t v ht => E.get t v (Env.get_keep e l t v ht), E.size, E.defers⟩

theorem compOpd_val {x : Operand} {y : AOpd} {v : AV} (hc : compOpd x = some y) (hv : y.val e = some v) (E : ER ρ nt e a) : VR ρ v (a.eval x) := by
  cases x with
  | tmp t =>
    cases hc
    obtain ⟨x, hx, hr⟩ := E.get t v hv
    simpa [Act.eval, hx] using hr
  | const c =>
    simp only [compOpd, Option.map_eq_some_iff] at hc
    obtain ⟨u, hu, rfl⟩ := hc
    cases hv
    exact toAV_VR hu
  | func f =>
    cases hc
    cases hv
    simp [Act.eval, VR, VRs]
  | global g => cases hc
theorem compOpds_vals : ∀ {xs : List Operand} {ys : List AOpd} {vs : List AV}, compOpds xs = some ys → vals e ys = some vs → ER ρ nt e a → VRs ρ vs (xs.map a.eval)
  | [], ys, vs, hc, hv, _ => by cases hc; cases hv; simp [VRs]
  | x :: xs, ys, vs, hc, hv, E => by
    simp only [compOpds] at hc
    split at hc
    · cases hc
    · rename_i y hy
      split at hc
      · cases hc
      · rename_i ys' hys
        cases hc
        simp only [vals] at hv
        split at hv
        · cases hv
        · rename_i v hv1
          split at hv
          · cases hv
          · rename_i vs' hvs
            cases hv
            simp only [List.map_cons, VRs]
            exact ⟨compOpd_val hy hv1 E, compOpds_vals hys hvs E⟩

/-- What a call does, told by the small code. -/
def Answers (P : Program) (W0 : World) (ρ : Rho) (h : H) (w : World) (v : AV) (h' : H) (f : FuncId) (cargs : Array Value) : Prop :=
  (∃ x w' ρ', (callFunc f cargs).run P w = .ok (.value x) w' ∧ VR ρ' v x ∧ Sim W0 ρ' h' w' ∧ Grow ρ h w ρ' h' w') ∨
  ((callFunc f cargs).run P w = .ok (.enter f cargs) w ∧ Calls P f cargs w fun e w' => ∃ x ρ', e = .returned x ∧ VR ρ' v x ∧ Sim W0 ρ' h' w' ∧ Grow ρ h w ρ' h' w')
def CallerOk (P : Program) (C : Caller) : Prop :=
  ∀ f args h v h', C f args h = some (v, h') → ∀ (W0 : World) (ρ : Rho) (w : World) (cargs : Array Value), Sim W0 ρ h w → VRs ρ args cargs.toList → Answers P W0 ρ h w v h' f cargs

theorem Answers.wp {v : AV} {h' : H} {f : FuncId} {cargs : Array Value} (A : Answers P W0 ρ h w v h' f cargs) {o : Oper} {K : Act → World → Prop} {Q : Exit → Act → World → Prop}
    (ho : (execOp a.eval o).run P w = (callFunc f cargs).run P w) (hK : ∀ x w' ρ', VR ρ' v x → Sim W0 ρ' h' w' → Grow ρ h w ρ' h' w' → K (a.put o.dst x) w') : o.wp P a w K Q := by
  unfold Oper.wp
  rw [ho]
  rcases A with ⟨x, w', ρ', hr, hv, S, G⟩ | ⟨hr, hcalls⟩
  · rw [hr]
    exact hK x w' ρ' hv S G
  · rw [hr, Oper.upon_enter]
    refine Calls.mono hcalls fun e w' he => ?_
    obtain ⟨x, ρ', rfl, hv, S, G⟩ := he
    exact hK x w' ρ' hv S G

theorem exec_call {o : Oper} {c : Call} {σ : Operand → Value} {f : FuncId} {x : Operand} {captured : Array Value} (ho : o.op = .call c) (hc : c.callee = .value x) (hx : σ x = .func (.func f) #[] captured) :
    (execOp σ o).run P w = (callFunc f (c.args.map σ ++ captured)).run P w := by
  simp [execOp, ho, resolve, hc, hx, Deferred.ofValue, invoke]

theorem wanted_eq {ops : Array Oper} {o : Oper} {ao : AOper} {b : Bool} (hg : compGuard ops o = some ao.guard) (hw : ao.wanted e = some b) (E : ER ρ nt e a) : Region.wanted o (yielded ops a.tmps) = b := by
  unfold Region.wanted
  unfold AOper.wanted at hw
  unfold compGuard at hg
  cases ho : o.guard with
  | none =>
    simp only [ho, Option.some.injEq] at hg
    rw [← hg] at hw
    simpa using hw
  | some gw =>
    obtain ⟨g, want⟩ := gw
    simp only [ho] at hg
    split at hg
    · rename_i t ht
      simp only [Option.some.injEq] at hg
      rw [← hg] at hw
      simp only at hw
      have hy : ∀ x, a.tmps[t]? = some x → yielded ops a.tmps g = (match x with | .bool b => some b | _ => none) := fun x hx => by
        unfold yielded
        rw [ht, Option.bind_some, hx]
        cases x <;> rfl
      split at hw
      · rename_i x hx
        obtain ⟨y, hy1, hr⟩ := E.get t _ hx
        have := hr.inv_b; subst this
        simp only [Option.some.injEq] at hw
        subst hw
        simp only [hy _ hy1]
        cases x <;> cases want <;> rfl
      · rename_i hx
        obtain ⟨y, hy1, hr⟩ := E.get t _ hx
        obtain ⟨ys, rfl, _⟩ := hr.inv_tup
        simp only [Option.some.injEq] at hw
        subst hw
        simp only [hy _ hy1]
        rfl
      · cases hw
    · cases hg

/-- One operation of a region. -/
theorem oper_sound {C : Caller} (hC : CallerOk P C) {ops : Array Oper} {i : Nat} {o : Oper} (hi : ops[i]? = some o) {ao : AOper} (hc : compOper P nt ops o = some ao) {v : AV} {h' : H} (he : evalOp C ao e h = some (v, h'))
    (E : ER ρ nt e a) (S : Sim W0 ρ h w) {K : Act → World → Prop} {Q : Exit → Act → World → Prop}
    (hK : ∀ x w' ρ', VR ρ' v x → Sim W0 ρ' h' w' → Grow ρ h w ρ' h' w' → K (a.put o.dst x) w') : wpOp P ops Q i K a w := by
  unfold wpOp
  simp only [hi]
  unfold compOper at hc
  split at hc
  case isFalse => cases hc
  split at hc
  · cases hc
  rename_i gd hgd
  unfold evalOp at he
  have hgu : ao.guard = gd := by
    split at hc
    · cases hc; rfl
    · split at hc
      · cases hc; rfl
      · cases hc; rfl
  split at he
  · cases he
  · rename_i hw
    cases he
    have := wanted_eq (ops := ops) (o := o) (by rw [hgd, hgu]) hw E
    rw [this]
    simp only [Bool.false_eq_true, if_false]
    exact hK undef w ρ (by simp [undef, VR, VRs]) S (Grow.refl _ _ _)
  · rename_i hw
    have hwant := wanted_eq (ops := ops) (o := o) (by rw [hgd, hgu]) hw E
    rw [hwant]
    simp only [if_true]
    left
    split at hc
    · cases hc
      simp [vals, evalK, evalP] at he
    · rename_i k xs hk
      split at hc
      · cases hc
        simp [vals, evalK, evalP] at he
      · rename_i as has
        cases hc
        simp only at he
        split at he
        · cases he
        · rename_i vs hvs
          have hv := compOpds_vals has hvs E
          by_cases hcall : k.isCall = true
          · -- a call
            have hop : ∃ c, o.op = .call c ∧ compCall P c = some (k, xs) := by
              revert hk
              cases o.op <;> simp only [compK] <;> intro hk
              case call c => exact ⟨c, rfl, hk⟩
              all_goals (exfalso; revert hk; repeat' split) <;> intro hk <;> first | (cases hk; done) | (cases hk; simp [Go.V.K.isCall] at hcall)
            obtain ⟨c, hoc, hcc⟩ := hop
            unfold compCall at hcc
            split at hcc
            · rename_i f hf
              cases hcc
              simp only at he
              refine (hC _ _ _ _ _ he W0 ρ w (c.args.map a.eval) S (by rw [Array.toList_map]; exact hv)).wp ?_ hK
              have := exec_call (P := P) (w := w) (σ := a.eval) hoc hf (f := f) (captured := #[]) rfl
              simpa using this
            · rename_i x hnf hx
              cases hcc
              cases vs with
              | nil => simp [VRs] at hv
              | cons u us =>
                obtain ⟨X, ys, e', hX, hys⟩ := hv.inv_cons
                simp only [List.map_cons, List.cons.injEq] at e'
                obtain ⟨rfl, rfl⟩ := e'
                match u, hX, he with
                | .fn f caps, hX, he =>
                  simp only at he
                  obtain ⟨cs, hxe, hcs⟩ := hX.inv_fn
                  refine (hC _ _ _ _ _ he W0 ρ w (c.args.map a.eval ++ cs) S (by simpa using hys.append hcs)).wp ?_ hK
                  exact exec_call hoc hx hxe
            · cases hcc
            · rename_i b hb
              exfalso
              revert hcc
              repeat' split
              all_goals intro hcc
              all_goals first | (cases hcc; done) | (cases hcc; simp [Go.V.K.isCall] at hcall)
          · have hcf : k.isCall = false := by simpa using hcall
            have he' : evalK k vs h = some (v, h') := by
              cases k <;> first | exact he | simp [Go.V.K.isCall] at hcf
            obtain ⟨x, w', ρ', hr, hvr, S', G'⟩ := compK_sound hk hcf rfl hv S he'
            unfold Oper.wp
            rcases hr with hr | ⟨hr, rfl⟩
            · rw [hr]; exact hK x w' ρ' hvr S' G'
            · rw [hr]; exact hK undef w' ρ' hvr S' G'

theorem compOper_dst {ops : Array Oper} {o : Oper} {ao : AOper} (hc : compOper P nt ops o = some ao) : ao.dst = o.dst ∧ ∀ d, o.dst = some d → d < nt := by
  unfold compOper at hc
  split at hc
  case isFalse => cases hc
  rename_i hd
  refine ⟨?_, fun d hdd => by unfold dstOk at hd; rw [hdd] at hd; simpa using hd⟩
  split at hc
  · cases hc
  · split at hc
    · cases hc; rfl
    · split at hc <;> (cases hc; rfl)
theorem compOpers_get {ops : Array Oper} : ∀ {os : List Oper} {as : List AOper}, compOpers P nt ops os = some as → as.length = os.length ∧ ∀ (i : Nat) (o : Oper), os[i]? = some o → ∃ a, as[i]? = some a ∧ compOper P nt ops o = some a
  | [], as, h => by cases h; simp
  | o :: os, as, h => by
    simp only [compOpers] at h
    split at h
    · cases h
    · rename_i a ha
      split at h
      · cases h
      · rename_i as' has
        cases h
        obtain ⟨h1, h2⟩ := compOpers_get has
        refine ⟨by simp [h1], fun i o' hi => ?_⟩
        cases i with
        | zero => simp at hi; subst hi; exact ⟨a, rfl, ha⟩
        | succ i => simpa using h2 i o' (by simpa using hi)

/-- Operations, one after the other, from the place i on. -/
theorem ops_sound {C : Caller} (hC : CallerOk P C) {ops : Array Oper} {as : List AOper} (hc : compOpers P nt ops ops.toList = some as) {Q : Exit → Act → World → Prop} {e' : Env} {h' : H} :
    ∀ (n i : Nat) (e : Env) (h : H) (a : Act) (w : World) (ρ : Rho), i + n = ops.size → evalOps C (as.drop i) e h = some (e', h') → ER ρ nt e a → Sim W0 ρ h w →
      (∀ a' w' ρ', ER ρ' nt e' a' → Sim W0 ρ' h' w' → Grow ρ h w ρ' h' w' → Q .normal a' w') → wpOps P ops Q (List.range' i n) a w := by
  obtain ⟨hl, hget⟩ := compOpers_get hc
  intro n
  induction n with
  | zero =>
    intro i e h a w ρ hi he E S hQ
    rw [List.drop_eq_nil_of_le (by rw [hl]; simp; omega)] at he
    simp only [evalOps, Option.some.injEq, Prod.mk.injEq] at he
    obtain ⟨rfl, rfl⟩ := he
    exact hQ a w ρ E S (Grow.refl _ _ _)
  | succ n ih =>
    intro i e h a w ρ hi he E S hQ
    have hlt : i < ops.size := by omega
    have ho : ops[i]? = some ops[i] := Array.getElem?_eq_getElem hlt
    obtain ⟨ao, hao, hco⟩ := hget i ops[i] (by rw [Array.getElem?_toList]; exact ho)
    have hil : i < as.length := by rw [hl]; simpa using hlt
    have hai : as[i] = ao := by rw [List.getElem?_eq_getElem hil] at hao; injection hao
    rw [List.drop_eq_getElem_cons hil, hai] at he
    simp only [evalOps] at he
    split at he
    · cases he
    · rename_i v h1 h1e
      rw [List.range'_succ, wpOps_cons]
      obtain ⟨hd1, hd2⟩ := compOper_dst hco
      refine oper_sound hC ho hco h1e E S fun x w' ρ' hv S' G' => ?_
      rw [hd1] at he
      exact ih (i + 1) _ h1 _ w' ρ' (by omega) he ((E.mono G'.le).put _ hd2 hv) S' fun a2 w2 ρ2 E2 S2 G2 => hQ a2 w2 ρ2 E2 S2 (G'.trans G2)
end
end Go.V
