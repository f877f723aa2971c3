import Derived.Test.YtemiffhfijlcaaaVSnd2
set_option linter.unusedSimpArgs false
set_option linter.unusedVariables false
set_option linter.unusedSectionVars false
/-! The table of operations. -/
namespace Go.V
open Go Go.RowKit
section ops
variable {P : Program} {W0 : World} {ρ : Rho} {h : H} {w : World}

theorem mm2_run {isMax : Bool} {u v r : AV} {X Y : Value} (hu : VR ρ u X) (hv : VR ρ v Y) (he : mmV isMax u v = some r) :
    ∃ R j, (if isMax then Builtin.max2 X Y else Builtin.min2 X Y).run P w = .ok R (w.drewN j) ∧ VR ρ r R := by
  cases u <;> cases v <;> simp only [mmV] at he <;> try (cases he; done)
  case i.i k m k' n =>
    have hX := hu.inv_i; have hY := hv.inv_i; subst hX; subst hY
    split at he
    · cases he
      refine ⟨_, 0, ?_, VR.mk_i _ _⟩
      cases isMax <;> rfl
    · cases he
  case f.f k m k' n =>
    obtain ⟨x, hX, rfl⟩ := hu.inv_f; obtain ⟨y, hY, rfl⟩ := hv.inv_f
    subst hX; subst hY
    split at he
    · rename_i hk
      subst hk
      cases he
      have key : ∃ R j, (if isMax then Builtin.max2 (.float k x) (.float k y) else Builtin.min2 (.float k x) (.float k y)).run P w = .ok (.float k R) (w.drewN j) ∧ fext isMax k (cn k x) (cn k y) = cn k R := by
        unfold fext
        rw [order_cn]
        cases ho : k.format.order x y with
        | none =>
          refine ⟨_, 1, ?_, (cn_of_nan (isNaN_cut_minMax k isMax x y (w.tape w.drawn (Question.nanMinMax k isMax x y)))).symm⟩
          cases isMax
          · simp only [Builtin.max2, Builtin.min2, ho, if_false, Bool.false_eq_true, Sem.run_bind, choose_drew (Question.nanMinMax k false x y) rfl, Result.andThen_ok, Sem.run_pure]
          · simp only [Builtin.max2, Builtin.min2, ho, if_true, Sem.run_bind, choose_drew (Question.nanMinMax k true x y) rfl, Result.andThen_ok, Sem.run_pure]
        | some o =>
          have hxn : isNaN k x = false := by
            cases hn : isNaN k x with
            | false => rfl
            | true =>
              obtain ⟨s, t, e⟩ := read_nan hn
              unfold Ieee.Format.order at ho
              rw [e, order_nan_left] at ho
              cases ho
          have hyn : isNaN k y = false := by
            cases hn : isNaN k y with
            | false => rfl
            | true =>
              obtain ⟨s, t, e⟩ := read_nan hn
              unfold Ieee.Format.order at ho
              rw [e, order_nan_right] at ho
              cases ho
          rw [cn_of_not hxn, cn_of_not hyn]
          cases o <;> cases isMax <;> simp only [Builtin.max2, Builtin.min2, ho, if_true, if_false, Bool.false_eq_true]
          all_goals first
            | exact ⟨_, 0, rfl, by simp [cn_of_not hxn, cn_of_not hyn]⟩
            | (refine ⟨_, 0, rfl, ?_⟩
               split <;> simp [cn_of_not hxn, cn_of_not hyn])
      obtain ⟨R, j, h1, h2⟩ := key
      exact ⟨_, j, h1, by rw [h2]; exact VR.mk_f _ _⟩
    · cases he
theorem mmL_run {isMax : Bool} : ∀ {vs : List AV} {xs : List Value} {u r : AV} {X : Value} {w : World}, VR ρ u X → VRs ρ vs xs → mmL isMax u vs = some r →
    ∃ R j, (xs.foldlM (fun a b => if isMax then Builtin.max2 a b else Builtin.min2 a b) X).run P w = .ok R (w.drewN j) ∧ VR ρ r R
  | [], xs, u, r, X, w, hu, hv, he => by
    simp [mmL] at he; subst he
    rw [hv.inv_nil]
    exact ⟨X, 0, rfl, hu⟩
  | v :: vs, xs, u, r, X, w, hu, hv, he => by
    obtain ⟨x, ys, rfl, hx, hys⟩ := hv.inv_cons
    simp only [mmL] at he
    split at he
    · cases he
    · rename_i z hz
      obtain ⟨R, j, h1, h2⟩ := mm2_run (P := P) (w := w) hu hx hz
      obtain ⟨R', j', h3, h4⟩ := mmL_run (w := w.drewN j) h2 hys he
      refine ⟨R', j + j', ?_, h4⟩
      rw [List.foldlM_cons, Sem.run_bind, h1, Result.andThen_ok, h3, World.drewN_drewN]

theorem asBool_run (b : Bool) : (asBool (.bool b)).run P w = .ok b w := rfl

theorem ld_run {t : TypeId} {n : Nat} {r : Ref} {X : Value} {v : AV} (S : Sim W0 ρ h w) (hX : VR ρ (.p (some r)) X)
    (hh : (isAggT P t = some true ∧ sizeT P t = some n ∧ ∃ l, rdn h r n = some l ∧ v = .agg l) ∨ (isAggT P t = some false ∧ rd h r = some v)) :
    ∃ x, (Instr.loadAt t X).run P w = .ok x w ∧ VR ρ v x := by
  obtain ⟨a, rfl, hr⟩ := hX.inv_p
  rcases hh with ⟨ha, hs, l, hl, rfl⟩ | ⟨ha, hv⟩
  · obtain ⟨xs, e1, e2, e3, _⟩ := rdn_run (P := P) S hr hl
    exact ⟨.agg xs.toArray, by simp [Instr.loadAt, Instr.sureAddr, loadVar, isAggT_run ha, sizeT_run hs, e1], by simpa [VR] using e3⟩
  · obtain ⟨x, e1, e2⟩ := rd_run (P := P) S hr hv
    exact ⟨x, by simp only [Instr.loadAt, Instr.sureAddr, loadVar, Sem.run_bind, isAggT_run ha, Result.andThen_ok, Sem.run_pure, if_false, Bool.false_eq_true, e1], e2⟩

theorem st_run {t : TypeId} {n : Nat} {r : Ref} {u : AV} {X Y : Value} {h' : H} (S : Sim W0 ρ h w) (hX : VR ρ (.p (some r)) X) (hY : VR ρ u Y) (hs : sizeT P t = some n) (hn : u.cells.length = n) (hw : wrn h r u.cells = some h') :
    ∃ w', (Instr.storeAt t X Y).run P w = .ok () w' ∧ Sim W0 ρ h' w' ∧ Grow ρ h w ρ h' w' := by
  obtain ⟨a, rfl, hr⟩ := hX.inv_p
  have hc := hY.cells
  obtain ⟨w', hst, S', G'⟩ := wrn_run (P := P) S hr hc hw
  have hsz : Y.cells.size = n := by rw [← hn, hc.length]; simp
  exact ⟨w', by simp [Instr.storeAt, Instr.sureAddr, storeVar, sizeT_run hs, hsz, hst], S', G'⟩

/-- A builtin, by the call. -/
theorem builtin_call {o : Oper} {c : Call} {b : Builtin} {σ : Operand → Value} (ho : o.op = .call c) (hb : c.callee = .builtin b) {v : AV} {h' : H} {s : Sem Value}
    (hs : ∀ cs, builtin b c.argTypes o.type cs (c.args.map σ) = (do pure (.value (← s)))) (hh : Out P W0 ρ h w v h' (do pure (.value (← s)))) : Out P W0 ρ h w v h' (execOp σ o) := by
  unfold execOp
  rw [ho]
  simp only [resolve, hb]
  obtain ⟨x, w', ρ', hr, rest⟩ := hh
  refine ⟨x, w', ρ', ?_, rest⟩
  simp only [Sem.run_bind, Sem.run_pure, Result.andThen_ok, invoke, hs]
  simpa using hr

theorem args_two {c : Call} {σ : Operand → Value} {u v : AV} (hv : VRs ρ [u, v] (c.args.toList.map σ)) : ∃ X Y, c.args.map σ = #[X, Y] ∧ VR ρ u X ∧ VR ρ v Y := by
  obtain ⟨X, ys, e, hX, hys⟩ := hv.inv_cons
  obtain ⟨Y, zs, rfl, hY, hzs⟩ := hys.inv_cons
  rw [hzs.inv_nil] at e
  refine ⟨X, Y, ?_, hX, hY⟩
  apply Array.ext'
  rw [Array.toList_map, e]
theorem args_one {c : Call} {σ : Operand → Value} {u : AV} (hv : VRs ρ [u] (c.args.toList.map σ)) : ∃ X, c.args.map σ = #[X] ∧ VR ρ u X := by
  obtain ⟨X, ys, e, hX, hys⟩ := hv.inv_cons
  rw [hys.inv_nil] at e
  refine ⟨X, ?_, hX⟩
  apply Array.ext'
  rw [Array.toList_map, e]

def K.isCall : K → Bool
  | .call _ | .callv => true
  | _ => false

theorem compCall_sound {c : Call} {k : K} {xs : List Operand} (hc : compCall P c = some (k, xs)) (hk : k.isCall = false) {o : Oper} (ho : o.op = .call c) {σ : Operand → Value} {vs : List AV} {v : AV} {h' : H}
    (hv : VRs ρ vs (xs.map σ)) (S : Sim W0 ρ h w) (he : evalK k vs h = some (v, h')) : Out P W0 ρ h w v h' (execOp σ o) := by
  unfold compCall at hc
  split at hc
  · cases hc; simp [K.isCall] at hk
  · cases hc; simp [K.isCall] at hk
  · cases hc
  rename_i b hb
  have fin : ∀ (s : Sem Value), (∀ cs, builtin b c.argTypes o.type cs (c.args.map σ) = (do pure (.value (← s)))) → Out P W0 ρ h w v h' (do pure (.value (← s))) → Out P W0 ρ h w v h' (execOp σ o) :=
    fun s hs hh => builtin_call ho hb (s := s) hs hh
  split at hc
  · -- len
    rename_i t ha0
    refine fin (Builtin.len_ c.argTypes o.type (c.args.map σ)) (fun _ => rfl) ?_
    split at hc
    · rename_i hu
      cases hc
      match vs, he with
      | [.s s], he =>
        simp [evalK, evalP] at he
        obtain ⟨rfl, rfl⟩ := he
        obtain ⟨X, hargs, hX⟩ := args_one hv
        have := hX.inv_s; subst this
        refine Out.ofP S ⟨goInt s.size, ?_, by simp [goInt, VR]⟩
        rw [hargs]
        simp [Builtin.len_, ha0, run_underlying hu]
    · rename_i e hu
      cases hc
      match vs, he with
      | [.sl r n cap gr], he =>
        simp [evalK, evalP] at he
        obtain ⟨rfl, rfl⟩ := he
        obtain ⟨X, hargs, hX⟩ := args_one hv
        obtain ⟨a, c', rfl, _⟩ := hX.inv_sl
        refine Out.ofP S ⟨goInt n, ?_, by simp [goInt, VR]⟩
        rw [hargs]
        simp [Builtin.len_, ha0, run_underlying hu]
    · rename_i n e hu
      cases hc
      match vs, he with
      | [u], he =>
        simp [evalK, evalP] at he
        obtain ⟨rfl, rfl⟩ := he
        obtain ⟨X, hargs, hX⟩ := args_one hv
        refine Out.ofP S ⟨goInt n, ?_, by simp [goInt, VR]⟩
        rw [hargs]
        simp [Builtin.len_, ha0, run_underlying hu]
    · rename_i a hu
      split at hc
      · rename_i n e hu2
        cases hc
        match vs, he with
        | [u], he =>
          simp [evalK, evalP] at he
          obtain ⟨rfl, rfl⟩ := he
          obtain ⟨X, hargs, hX⟩ := args_one hv
          refine Out.ofP S ⟨goInt n, ?_, by simp [goInt, VR]⟩
          rw [hargs]
          simp [Builtin.len_, ha0, run_underlying hu, run_underlying hu2]
      · cases hc
    · cases hc
  · -- append
    rename_i t ha0
    refine fin (Builtin.append_ c.argTypes o.type (c.args.map σ)) (fun _ => rfl) ?_
    split at hc
    · rename_i e u hu ha1
      split at hc
      · rename_i e' hu'
        split at hc
        · rename_i i hi
          split at hc
          · rename_i z hz
            split at hc
            · rename_i hzl
              cases hc
              match vs, he with
              | [.sl r len cap gr, x], he =>
                simp only [evalK] at he
                split at he
                · cases he
                · rename_i n new hs
                  obtain ⟨X, Y, hargs, hX, hY⟩ := args_two hv
                  rw [hargs]
                  exact Out.ofW (app_run ha0 ha1 hu hu' hi hz hzl S hX hY hs he)
            · cases hc
          · cases hc
        · cases hc
      · cases hc
    · cases hc
  · -- copy
    rename_i t ha0
    refine fin (Builtin.copy_ c.argTypes o.type (c.args.map σ)) (fun _ => rfl) ?_
    split at hc
    · rename_i e hu
      split at hc
      · rename_i s hs
        cases hc
        match vs, he with
        | [.sl r len cap gr, x], he =>
          simp only [evalK] at he
          split at he
          · cases he
          · rename_i n new hsrc
            obtain ⟨X, Y, hargs, hX, hY⟩ := args_two hv
            rw [hargs]
            obtain ⟨R, w', h1, h2, h3, h4⟩ := cpy_run (P := P) (w := w) (ty := o.type) ha0 hu hs S hX hY hsrc he
            exact Out.ofW ⟨R, w', ρ, h1, h2, h3, h4⟩
      · cases hc
    · cases hc
  · -- max
    cases hc
    refine fin (Builtin.max_ c.argTypes o.type (c.args.map σ)) (fun _ => rfl) ?_
    match vs, he with
    | x :: vs, he =>
      simp only [evalK, evalP] at he
      split at he
      · rename_i z hz
        cases he
        obtain ⟨X, Ys, e, hX, hY⟩ := hv.inv_cons
        obtain ⟨R, j, h1, h2⟩ := mmL_run (P := P) (w := w) hX hY hz
        refine Out.of S ⟨R, j, ?_, h2⟩
        simp only [if_true] at h1
        simp only [Builtin.max_, Array.toList_map, e, h1]
      · cases he
  · -- min
    cases hc
    refine fin (Builtin.min_ c.argTypes o.type (c.args.map σ)) (fun _ => rfl) ?_
    match vs, he with
    | x :: vs, he =>
      simp only [evalK, evalP] at he
      split at he
      · rename_i z hz
        cases he
        obtain ⟨X, Ys, e, hX, hY⟩ := hv.inv_cons
        obtain ⟨R, j, h1, h2⟩ := mmL_run (P := P) (w := w) hX hY hz
        refine Out.of S ⟨R, j, ?_, h2⟩
        simp only [if_false, Bool.false_eq_true] at h1
        simp only [Builtin.min_, Array.toList_map, e, h1]
      · cases he
  · cases hc
end ops
end Go.V
