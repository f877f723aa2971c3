import Derived.Test.YtemiffhfijlcaaaVRules
set_option linter.unusedSimpArgs false
set_option linter.unusedVariables false
set_option linter.unusedSectionVars false
/-! Functions without a Go body, as functions of values. -/
namespace Go.V
open Go

/-- math.Sqrt's inner one. -/
def gSqrt : List AV → Option AV
  | [.f .f64 x] => some (.f .f64 (fsqrt .f64 x))
  | _ => none
def gBits64 : List AV → Option AV
  | [.f .f64 x] => if isNaN .f64 x then none else some (.i .u64 x)
  | _ => none
def gBits32 : List AV → Option AV
  | [.f .f32 x] => if isNaN .f32 x then none else some (.i .u32 x)
  | _ => none
def gFrom64 : List AV → Option AV
  | [.i .u64 n] => some (.f .f64 (cn .f64 n.toNat))
  | _ => none
def gFrom32 : List AV → Option AV
  | [.i .u32 n] => some (.f .f32 (cn .f32 n.toNat))
  | _ => none

theorem ext_ok {P : Program} {f : FuncId} {fn : Func} {e : Array Value → Sem Value} {g : List AV → Option AV} (hf : P.funcs[f]? = some fn) (hb : fn.body.isNone = true) (hname : (fn.name == "runtime.NumGoroutine") = false)
    (hn : Extern.findNext fn = none) (he : Extern.find fn = some e) (hrun : ∀ args v, g args = some v → ∀ (ρ : Rho) (xs : Array Value) (w : World), VRs ρ args xs.toList → ∃ x j, (e xs).run P w = .ok x (w.drewN j) ∧ VR ρ v x) : MeansOk P f (.pure g) := by
  intro args v hg W0 ρ h w cargs S hv
  left
  obtain ⟨x, j, hr, hx⟩ := hrun args v hg ρ cargs w hv
  have hname' : fn.name ≠ "runtime.NumGoroutine" := by simpa using hname
  refine ⟨x, w.drewN j, ρ, ?_, hx, S.drewN j, Grow.drewN ρ h w j⟩
  have hb' : fn.body = none := by simpa using hb
  simp [callFunc, hf, hb', hname', hn, he, hr]

theorem one_arg {ρ : Rho} {u : AV} {xs : Array Value} (hv : VRs ρ [u] xs.toList) : ∃ x, xs = #[x] ∧ VR ρ u x := by
  obtain ⟨x, ys, e, hx, hys⟩ := hv.inv_cons
  rw [hys.inv_nil] at e
  exact ⟨x, by apply Array.ext'; rw [e], hx⟩

section
variable {P : Program} {ρ : Rho} {w : World}
theorem sqrt_ok (args : List AV) (v : AV) (hg : gSqrt args = some v) (ρ : Rho) (xs : Array Value) (w : World) (hv : VRs ρ args xs.toList) : ∃ x j, (Extern.MathSqrt.sqrt xs).run P w = .ok x (w.drewN j) ∧ VR ρ v x := by
  match args, hg, hv with
  | [.f .f64 x], hg, hv =>
    simp only [gSqrt, Option.some.injEq] at hg
    subst hg
    obtain ⟨X, rfl, hX⟩ := one_arg hv
    obtain ⟨y, rfl, rfl⟩ := hX.inv_f
    unfold fsqrt
    rw [sqrt_cn]
    have e : Extern.MathSqrt.sqrt #[.float .f64 y] = (match FloatKind.f64.format.sqrt y with
      | some r => pure (.float .f64 r)
      | none => do pure (.float .f64 (← choose (.nanBits .f64 y y)))) := rfl
    rw [e]
    cases hs : FloatKind.f64.format.sqrt y with
    | some r =>
      refine ⟨.float .f64 r, 0, rfl, ?_⟩
      simp [VR, cn_of_not (sqrt_solid hs)]
    | none =>
      refine ⟨_, 1, by simp only [Sem.run_bind, choose_drew (Question.nanBits .f64 y y) rfl, Result.andThen_ok, Sem.run_pure]; rfl, ?_⟩
      simp [VR, cn_of_nan (isNaN_cut _ _ _ _)]
theorem bits64_ok (args : List AV) (v : AV) (hg : gBits64 args = some v) (ρ : Rho) (xs : Array Value) (w : World) (hv : VRs ρ args xs.toList) : ∃ x j, (Extern.MathFloatBits.float64bits xs).run P w = .ok x (w.drewN j) ∧ VR ρ v x := by
  match args, hg, hv with
  | [.f .f64 x], hg, hv =>
    simp only [gBits64] at hg
    obtain ⟨X, rfl, hX⟩ := one_arg hv
    obtain ⟨y, rfl, rfl⟩ := hX.inv_f
    rw [isNaN_cn] at hg
    split at hg
    · cases hg
    · rename_i hn
      cases hg
      rw [cn_of_not (by simpa using hn)]
      exact ⟨_, 0, rfl, VR.mk_i _ _⟩
theorem bits32_ok (args : List AV) (v : AV) (hg : gBits32 args = some v) (ρ : Rho) (xs : Array Value) (w : World) (hv : VRs ρ args xs.toList) : ∃ x j, (Extern.MathFloatBits.float32bits xs).run P w = .ok x (w.drewN j) ∧ VR ρ v x := by
  match args, hg, hv with
  | [.f .f32 x], hg, hv =>
    simp only [gBits32] at hg
    obtain ⟨X, rfl, hX⟩ := one_arg hv
    obtain ⟨y, rfl, rfl⟩ := hX.inv_f
    rw [isNaN_cn] at hg
    split at hg
    · cases hg
    · rename_i hn
      cases hg
      rw [cn_of_not (by simpa using hn)]
      exact ⟨_, 0, rfl, VR.mk_i _ _⟩
theorem from64_ok (args : List AV) (v : AV) (hg : gFrom64 args = some v) (ρ : Rho) (xs : Array Value) (w : World) (hv : VRs ρ args xs.toList) : ∃ x j, (Extern.MathFloatBits.float64frombits xs).run P w = .ok x (w.drewN j) ∧ VR ρ v x := by
  match args, hg, hv with
  | [.i .u64 n], hg, hv =>
    simp only [gFrom64, Option.some.injEq] at hg
    subst hg
    obtain ⟨X, rfl, hX⟩ := one_arg hv
    have := hX.inv_i; subst this
    exact ⟨_, 0, rfl, VR.mk_f _ _⟩
theorem from32_ok (args : List AV) (v : AV) (hg : gFrom32 args = some v) (ρ : Rho) (xs : Array Value) (w : World) (hv : VRs ρ args xs.toList) : ∃ x j, (Extern.MathFloatBits.float32frombits xs).run P w = .ok x (w.drewN j) ∧ VR ρ v x := by
  match args, hg, hv with
  | [.i .u32 n], hg, hv =>
    simp only [gFrom32, Option.some.injEq] at hg
    subst hg
    obtain ⟨X, rfl, hX⟩ := one_arg hv
    have := hX.inv_i; subst this
    exact ⟨_, 0, rfl, VR.mk_f _ _⟩
end

/-- A table of meanings, as a list. -/
def look (f : Nat) : List (Nat × Meaning) → Option Meaning
  | [] => none
  | (k, m) :: t => if f = k then some m else look f t
def AllOk (P : Program) : List (Nat × Meaning) → Prop
  | [] => True
  | (k, m) :: t => MeansOk P k m ∧ AllOk P t
theorem look_ok {P : Program} {f : Nat} {m : Meaning} : ∀ {t : List (Nat × Meaning)}, AllOk P t → look f t = some m → MeansOk P f m
  | [], _, h => by cases h
  | (k, m') :: t, ha, h => by
    simp only [look] at h
    split at h
    · rename_i e; subst e; cases h; exact ha.1
    · exact look_ok ha.2 h
end Go.V
