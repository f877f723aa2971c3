import Derived.Test.YtemiffhfijlcaaaVDraw3
set_option linter.unusedSimpArgs false
set_option linter.unusedVariables false
set_option linter.unusedSectionVars false
/-! Code and functions: what the small code computes, the model's calls do. -/
namespace Go.V
open Go Go.RowKit

def AX.to : AX → Exit
  | .normal => .normal
  | .exit id => .exit id
  | .ret => .ret

theorem exists_least {p : Nat → Prop} (h : ∃ k, p k) : ∃ k, p k ∧ ∀ j, p j → k ≤ j := by
  obtain ⟨k, hk⟩ := h
  induction k using Nat.strongRecOn with
  | _ k ih =>
    by_cases hj : ∃ j, j < k ∧ p j
    · obtain ⟨j, h1, h2⟩ := hj
      exact ih j h1 h2
    · refine ⟨k, hk, fun j hj' => ?_⟩
      rcases Nat.lt_or_ge j k with h1 | h1
      · exact absurd ⟨j, h1, hj'⟩ hj
      · exact h1

section
variable {P : Program} {W0 : World} {nt : Nat}

open Classical in
theorem wp_loop_by {c : Code} {Q : Exit → Act → World → Prop} {a : Act} {w : World} (J : Nat → Act → World → Prop) {n : Nat} (h0 : J n a w)
    (round : ∀ k a w, J k a w → c.wp P (Exit.then (fun a' w' => ∃ k', k' < k ∧ J k' a' w') Q) a w) : (Code.loop c).wp P Q a w := by
  let μ : Act → World → Nat := fun a w => if h : ∃ k, J k a w then Classical.choose (exists_least h) else 0
  refine wp_loop (fun a w => ∃ k, J k a w) μ ⟨n, h0⟩ fun a w hJ => ?_
  have hμ : μ a w = Classical.choose (exists_least hJ) := dif_pos hJ
  obtain ⟨h1, h2⟩ := Classical.choose_spec (exists_least hJ)
  refine wp_mono (round _ a w h1) fun e a' w' hq => ?_
  cases e with
  | normal =>
    obtain ⟨k', hk, hj⟩ := hq
    refine ⟨⟨k', hj⟩, ?_⟩
    have hJ' : ∃ k, J k a' w' := ⟨k', hj⟩
    have hμ' : μ a' w' = Classical.choose (exists_least hJ') := dif_pos hJ'
    have := (Classical.choose_spec (exists_least hJ')).2 k' hj
    show μ a' w' < μ a w
    rw [hμ, hμ']
    omega
  | _ => exact hq

theorem evalLoop_sound {B : Env → H → Option (AX × Env × H)} {c : Code} {x : AX} {e1 : Env} {h1 : H} {Q : Exit → Act → World → Prop}
    (hB : ∀ (e : Env) (h : H) (a : Act) (w : World) (ρ : Rho) (x : AX) (e' : Env) (h' : H) (Q : Exit → Act → World → Prop), B e h = some (x, e', h') → ER ρ nt e a → Sim W0 ρ h w →
      (∀ a' w' ρ', ER ρ' nt e' a' → Sim W0 ρ' h' w' → Grow ρ h w ρ' h' w' → Q x.to a' w') → c.wp P Q a w)
    (n : Nat) (e : Env) (h : H) (a : Act) (w : World) (ρ : Rho) (he : evalLoop B n e h = some (x, e1, h1)) (E : ER ρ nt e a) (S : Sim W0 ρ h w)
    (hQ : ∀ a' w' ρ', ER ρ' nt e1 a' → Sim W0 ρ' h1 w' → Grow ρ h w ρ' h1 w' → Q x.to a' w') : (Code.loop c).wp P Q a w := by
  refine wp_loop_by (fun k a' w' => ∃ e' h' ρ', evalLoop B k e' h' = some (x, e1, h1) ∧ ER ρ' nt e' a' ∧ Sim W0 ρ' h' w' ∧ Grow ρ h w ρ' h' w') (n := n) ⟨e, h, ρ, he, E, S, Grow.refl _ _ _⟩ ?_
  rintro k a2 w2 ⟨e2, h2, ρ2, he2, E2, S2, G2⟩
  cases k with
  | zero => simp [evalLoop] at he2
  | succ k =>
    simp only [evalLoop] at he2
    split at he2
    · rename_i e3 h3 hb
      refine hB e2 h2 a2 w2 ρ2 _ e3 h3 _ hb E2 S2 fun a' w' ρ' E' S' G' => ?_
      exact ⟨k, by omega, e3, h3, ρ', he2, E', S', G2.trans G'⟩
    · rename_i hne
      refine hB e2 h2 a2 w2 ρ2 x e1 h1 _ he2 E2 S2 fun a' w' ρ' E' S' G' => ?_
      have := hQ a' w' ρ' E' S' (G2.trans G')
      cases x with
      | normal => exact absurd he2 (hne e1 h1)
      | exit id => exact this
      | ret => exact this

theorem evalK_still {k : K} {q : FuncId → Bool} (hk : k.still q = true) (hc : k.isCall = false) {vs : List AV} {h h' : H} {v : AV} (he : evalK k vs h = some (v, h')) : h <+: h' := by
  unfold evalK at he
  split at he
  all_goals try (simp [K.still] at hk; done)
  all_goals try (simp [K.isCall] at hc; done)
  · split at he
    · cases he; exact List.prefix_refl _
    · cases he
  · split at he
    · cases he; exact List.prefix_refl _
    · cases he
  · cases he; exact List.prefix_refl _
  · split at he
    · cases he
    · split at he
      · cases he
      · cases he; exact List.prefix_refl _
  · cases he; exact List.prefix_append _ _
  · split at he
    · cases he; exact List.prefix_append _ _
    · cases he
  · split at he
    · cases he
    · split at he
      · cases he; exact List.prefix_append _ _
      · cases he
  · split at he
    · cases he; exact List.prefix_append _ _
    · cases he
  · split at he
    · cases he; exact List.prefix_refl _
    · cases he
def StillOk (q : FuncId → Bool) (C : Caller) : Prop := ∀ f args h v h', q f = true → C f args h = some (v, h') → h <+: h'
theorem evalOp_still {q : FuncId → Bool} {C : Caller} (hq : StillOk q C) {o : AOper} (hk : o.k.still q = true) {e : Env} {h h' : H} {v : AV} (he : evalOp C o e h = some (v, h')) : h <+: h' := by
  unfold evalOp at he
  split at he
  · cases he
  · cases he; exact List.prefix_refl _
  · split at he
    · cases he
    · rename_i vs hvs
      cases hko : o.k with
      | call f =>
        rw [hko] at he hk
        exact hq _ _ _ _ _ hk he
      | callv => rw [hko] at hk; simp [K.still] at hk
      | _ => rw [hko] at he hk; exact evalK_still hk rfl he
theorem still_quiet {q : FuncId → Bool} {C : Caller} (hq : StillOk q C) : ∀ (m : Nat) (os : List AOper) (e : Env) (h : H) (r : Env × H), (os.take m).all (fun o => o.k.still q) = true → evalOps C os e h = some r → quietDraw C m os e h
  | 0, _, _, _, _, _, _ => by simp [quietDraw]
  | m + 1, [], _, _, _, _, _ => by simp [quietDraw]
  | m + 1, o :: os, e, h, r, hall, he => by
    simp only [List.take_succ_cons, List.all_cons, Bool.and_eq_true] at hall
    simp only [evalOps] at he
    split at he
    · cases he
    · rename_i v h1 h1e
      simp only [quietDraw, h1e]
      exact ⟨evalOp_still hq hall.1 h1e, still_quiet hq m os _ _ r hall.2 he⟩

theorem code_sound {q : FuncId → Bool} {C : Caller} (hC : CallerOk P C) (hq : StillOk q C) (hmix : P.follows .mixedOrders = true) (n : Nat) (keep : List Nat) : ∀ (c : Code) (seen rest : List Nat) (e : Env) (h : H) (a : Act) (w : World) (ρ : Rho) (x : AX) (e' : Env) (h' : H) (Q : Exit → Act → World → Prop),
    evalC q C n (compC P nt keep seen rest c) e h = some (x, e', h') → ER ρ nt e a → Sim W0 ρ h w → (∀ a' w' ρ', ER ρ' nt e' a' → Sim W0 ρ' h' w' → Grow ρ h w ρ' h' w' → Q x.to a' w') → c.wp P Q a w := by
  intro c
  induction c with
  | skip =>
    intro seen rest e h a w ρ x e' h' Q he E S hQ
    simp only [compC, evalC, Option.some.injEq, Prod.mk.injEq] at he
    obtain ⟨rfl, rfl, rfl⟩ := he
    exact wp_skip (hQ a w ρ E S (Grow.refl _ _ _))
  | region id ops draw =>
    intro seen rest e h a w ρ x e' h' Q he E S hQ
    simp only [compC] at he
    split at he
    · simp [evalC] at he
    · rename_i as has
      split at he
      · rename_i hd
        split at he
        · rename_i hok
          simp only [evalC] at he
          have hd' : draw = true := hd
          subst hd'
          split at he
          · rename_i hall
            split at he
            · cases he
            · rename_i e2 h2 hev
              cases he
              exact draw_sound hC hmix has hok (still_quiet hq _ _ _ _ _ hall hev) hev E S fun a' w' ρ' E' S' G' => hQ a' w' ρ' (E'.keep _) S' G'
          · split at he
            · rename_i hqd
              split at he
              · cases he
              · rename_i e2 h2 hev
                cases he
                rcases hqd with hqd | hqd
                · exact draw_sound hC hmix has hok hqd hev E S fun a' w' ρ' E' S' G' => hQ a' w' ρ' (E'.keep _) S' G'
                · exact draw_sound2 hC hmix has hok hqd hev E S fun a' w' ρ' E' S' G' => hQ a' w' ρ' (E'.keep _) S' G'
            · cases he
        · simp [evalC] at he
      · rename_i hd
        have hd' : draw = false := by simpa using hd
        subst hd'
        simp only [evalC] at he
        split at he
        · cases he
        · rename_i e2 h2 hev
          cases he
          refine wp_region ?_
          rw [List.range_eq_range']
          exact ops_sound hC has ops.size 0 e h a w ρ (by omega) (by simpa using hev) E S fun a' w' ρ' E' S' G' => hQ a' w' ρ' (E'.keep _) S' G'
  | seq c1 c2 ih1 ih2 =>
    intro seen rest e h a w ρ x e' h' Q he E S hQ
    simp only [compC, evalC] at he
    refine wp_seq ?_
    split at he
    · rename_i e2 h2 h1e
      refine ih1 _ _ e h a w ρ _ e2 h2 _ h1e E S fun a' w' ρ' E' S' G' => ?_
      exact ih2 _ _ e2 h2 a' w' ρ' x e' h' Q he E' S' fun a2 w2 ρ2 E2 S2 G2 => hQ a2 w2 ρ2 E2 S2 (G'.trans G2)
    · rename_i hne
      refine ih1 _ _ e h a w ρ x e' h' _ he E S fun a' w' ρ' E' S' G' => ?_
      have := hQ a' w' ρ' E' S' G'
      cases x with
      | normal => exact absurd he (hne e' h')
      | exit id => exact this
      | ret => exact this
  | cond c t f iht ihf =>
    intro seen rest e h a w ρ x e' h' Q he E S hQ
    simp only [compC] at he
    split at he
    · rename_i y hy
      simp only [evalC] at he
      split at he
      · rename_i hv
        have := (compOpd_val hy hv E).inv_b
        exact wp_cond_true this (iht _ _ e h a w ρ x e' h' Q he E S hQ)
      · rename_i hv
        have := (compOpd_val hy hv E).inv_b
        exact wp_cond_false this (ihf _ _ e h a w ρ x e' h' Q he E S hQ)
      · cases he
    · simp [evalC] at he
  | block id c ih =>
    intro seen rest e h a w ρ x e' h' Q he E S hQ
    simp only [compC, evalC] at he
    refine wp_block ?_
    split at he
    · rename_i i e2 h2 h1e
      refine ih _ _ e h a w ρ _ e2 h2 _ h1e E S fun a' w' ρ' E' S' G' => ?_
      simp only [AX.to, Exit.inBlock]
      split at he
      · rename_i hid
        cases he
        rw [if_pos hid]
        exact hQ a' w' ρ' E' S' G'
      · rename_i hid
        cases he
        rw [if_neg hid]
        exact hQ a' w' ρ' E' S' G'
    · rename_i hne
      refine ih _ _ e h a w ρ x e' h' _ he E S fun a' w' ρ' E' S' G' => ?_
      have := hQ a' w' ρ' E' S' G'
      cases x with
      | normal => exact this
      | exit id => exact absurd he (hne id e' h')
      | ret => exact this
  | loop c ih =>
    intro seen rest e h a w ρ x e' h' Q he E S hQ
    simp only [compC, evalC] at he
    exact evalLoop_sound (nt := nt) (fun e h a w ρ x e' h' Q he E S hQ => ih _ _ (e.keep _) h a w ρ x e' h' Q he (E.keep _) S hQ) n e h a w ρ he E S hQ
  | exit id =>
    intro seen rest e h a w ρ x e' h' Q he E S hQ
    simp only [compC, evalC, Option.some.injEq, Prod.mk.injEq] at he
    obtain ⟨rfl, rfl, rfl⟩ := he
    exact wp_exit (hQ a w ρ E S (Grow.refl _ _ _))
  | ret =>
    intro seen rest e h a w ρ x e' h' Q he E S hQ
    simp only [compC, evalC, Option.some.injEq, Prod.mk.injEq] at he
    obtain ⟨rfl, rfl, rfl⟩ := he
    exact wp_ret (hQ a w ρ E S (Grow.refl _ _ _))
  | _ =>
    intro seen rest e h a w ρ x e' h' Q he
    simp [compC, evalC] at he

theorem bindArgs_get : ∀ (i : Nat) (args : List AV) (t : Nat) (v : AV), (bindArgs i args).get t = some v → i ≤ t ∧ args[t - i]? = some v
  | i, [], t, v, h => by simp [bindArgs, Env.get] at h
  | i, u :: us, t, v, h => by
    simp only [bindArgs, Env.get] at h
    split at h
    · rename_i e; subst e; cases h; simp
    · rename_i hne
      obtain ⟨h1, h2⟩ := bindArgs_get (i + 1) us t v h
      refine ⟨by omega, ?_⟩
      rw [show t - i = (t - (i + 1)) + 1 by omega]
      simpa using h2

def resSem (tmps : Array Value) : ResultVar → Sem Value
  | .tmp t => pure (tmps.getD t undef)
  | .cell a t => do loadVar t (← asAddr (tmps.getD a undef))
theorem res_sound {ρ : Rho} {e : Env} {h : H} {a : Act} {w : World} (E : ER ρ nt e a) (S : Sim W0 ρ h w) : ∀ {rs : List ResultVar} {as : List ARes} {vs : List AV}, compRes P rs = some as → resVals e h as = some vs →
    ∃ xs, (rs.mapM (resSem a.tmps)).run P w = .ok xs w ∧ VRs ρ vs xs
  | [], as, vs, hc, hv => by cases hc; cases hv; exact ⟨[], rfl, by simp [VRs]⟩
  | .tmp t :: rs, as, vs, hc, hv => by
    simp only [compRes] at hc
    split at hc
    · rename_i l hl
      cases hc
      simp only [resVals] at hv
      split at hv
      · cases hv
      · rename_i v hv1
        split at hv
        · cases hv
        · rename_i vs' hvs
          cases hv
          obtain ⟨xs, h1, h2⟩ := res_sound E S hl hvs
          obtain ⟨x, hx, hr⟩ := E.get t v hv1
          refine ⟨x :: xs, ?_, by simp [VRs, hr, h2]⟩
          have hx' : a.tmps.getD t undef = x := by simp [hx]
          simp only [List.mapM_cons, Sem.run_bind, resSem, Sem.run_pure, Result.andThen_ok, hx']
          rw [h1]
          rfl
    · cases hc
  | .cell b t :: rs, as, vs, hc, hv => by
    simp only [compRes] at hc
    split at hc
    · cases hc
    · rename_i l hl
      have load : ∀ (r : Ref) (v : AV), e.get b = some (.p (some r)) → (∃ n, (isAggT P t = some true ∧ sizeT P t = some n ∧ ∃ l, rdn h r n = some l ∧ v = .agg l) ∨ (isAggT P t = some false ∧ rd h r = some v)) →
          ∃ x, (do loadVar t (← asAddr (a.tmps.getD b undef)) : Sem Value).run P w = .ok x w ∧ VR ρ v x := by
        intro r v hb ⟨n, hh⟩
        obtain ⟨y, hy, hr⟩ := E.get b _ hb
        obtain ⟨ad, rfl, hra⟩ := hr.inv_p
        obtain ⟨x, h1, h2⟩ := ld_run (P := P) S (VR.mk_p hra) hh
        refine ⟨x, ?_, h2⟩
        have hy' : a.tmps.getD b undef = .pointer (some ad) := by simp [hy]
        rw [hy']
        simpa [Instr.loadAt, Instr.sureAddr, asAddr] using h1
      have cont : ∀ (ar : ARes) (v : AV), ar.val e h = some v → (∀ vv, ar.val e h = some vv → ∃ x, (do loadVar t (← asAddr (a.tmps.getD b undef)) : Sem Value).run P w = .ok x w ∧ VR ρ vv x) → resVals e h (ar :: l) = some vs →
          ∃ xs, ((ResultVar.cell b t :: rs).mapM (resSem a.tmps)).run P w = .ok xs w ∧ VRs ρ vs xs := by
        intro ar v hav hl1 hv
        simp only [resVals, hav] at hv
        split at hv
        · cases hv
        · rename_i vs' hvs
          cases hv
          obtain ⟨xs, h1, h2⟩ := res_sound E S hl hvs
          obtain ⟨x, h3, h4⟩ := hl1 v hav
          refine ⟨x :: xs, ?_, by simp [VRs, h4, h2]⟩
          have h3' : (resSem a.tmps (.cell b t)).run P w = .ok x w := h3
          simp only [List.mapM_cons, Sem.run_bind, h3', Result.andThen_ok, h1, Sem.run_pure]
      split at hc
      · rename_i ha
        split at hc
        · rename_i n hs
          cases hc
          cases hav : (ARes.cells b n).val e h with
          | none => simp [resVals, hav] at hv
          | some v =>
            refine cont _ v hav (fun vv hvv => ?_) hv
            simp only [ARes.val] at hvv
            split at hvv
            · rename_i r hr
              rw [Option.map_eq_some_iff] at hvv
              obtain ⟨l', hl', rfl⟩ := hvv
              exact load r _ hr ⟨n, .inl ⟨ha, hs, l', hl', rfl⟩⟩
            · cases hvv
        · cases hc
      · rename_i ha
        cases hc
        cases hav : (ARes.cell b).val e h with
        | none => simp [resVals, hav] at hv
        | some v =>
          refine cont _ v hav (fun vv hvv => ?_) hv
          simp only [ARes.val] at hvv
          split at hvv
          · rename_i r hr
            exact load r _ hr ⟨0, .inr ⟨ha, hvv⟩⟩
          · cases hvv
      · cases hc

theorem pack_VR {ρ : Rho} {vs : List AV} {xs : List Value} (hv : VRs ρ vs xs) : VR ρ (pack vs) (if h : xs.toArray.size = 1 then xs.toArray[0] else .tuple xs.toArray) := by
  match vs, xs, hv with
  | [], [], _ => simp [pack, VR, VRs]
  | [v], [x], hv => simpa [pack, VRs] using hv
  | v :: u :: vs, x :: y :: xs, hv => simp only [pack]; rw [dif_neg (by simp)]; simpa [VR] using hv
  | [v], x :: y :: xs, hv => simp [VRs] at hv
  | v :: u :: vs, [x], hv => simp [VRs] at hv

/-- What stands behind a number is so. -/
def MeansOk (P : Program) (f : FuncId) : Meaning → Prop
  | .code _ F => compF P f = some F
  | .pure g => ∀ args v, g args = some v → ∀ (W0 : World) (ρ : Rho) (h : H) (w : World) (cargs : Array Value), Sim W0 ρ h w → VRs ρ args cargs.toList → Answers P W0 ρ h w v h f cargs

/-- A function's body. -/
theorem body_sound {q : FuncId → Bool} {C : Caller} (hC : CallerOk P C) (hq : StillOk q C) (hmix : P.follows .mixedOrders = true) {n : Nat} {f : FuncId} {F : AFun} (hcomp : compF P f = some F) {args : List AV} {h h' : H} {v : AV} (he : runBody q C n F args h = some (v, h'))
    (W0 : World) (ρ : Rho) (w : World) (cargs : Array Value) (S : Sim W0 ρ h w) (hv : VRs ρ args cargs.toList) : (callFunc f cargs).run P w = .ok (.enter f cargs) w ∧ Calls P f cargs w fun e w' => ∃ x ρ', e = .returned x ∧ VR ρ' v x ∧ Sim W0 ρ' h' w' ∧ Grow ρ h w ρ' h' w' := by
  unfold runBody at he
  unfold compF at hcomp
  split at hcomp
  · cases hcomp
  · rename_i fn hfn
    split at hcomp
    · cases hcomp
    · rename_i c hb
      split at hcomp
      · cases hcomp
      · rename_i hname
        split at hcomp
        · cases hcomp
        · rename_i rs hrs
          cases hcomp
          refine ⟨by simp [callFunc, hfn, hb, show ¬ fn.name = "runtime.NumGoroutine" by simpa using hname], ?_⟩
          have he' : ∃ x e2 h2 vs, (∀ id, x ≠ AX.exit id) ∧ evalC q C n (compC P fn.ntmps (slots fn c) (List.range (fn.params.size + fn.nfree)) (resTmps fn.results.toList) c) (bindArgs 0 args) h = some (x, e2, h2) ∧ resVals e2 h2 rs = some vs ∧ v = pack vs ∧ h' = h2 := by
            split at he
            · cases he
            · rename_i x e2 h2 hne hev
              split at he
              · rename_i vs hvs
                cases he
                exact ⟨x, e2, h', vs, hne, hev, hvs, rfl, rfl⟩
              · cases he
            · cases he
          obtain ⟨x, e2, h2, vs, hx, hev, hvs, rfl, rfl⟩ := he'
          refine calls_of_wp hfn hb ?_
          refine code_sound (nt := fn.ntmps) hC hq hmix n _ c _ _ _ h _ w ρ x e2 h' _ hev ⟨fun t u ht => ?_, ?_, rfl⟩ S fun a' w' ρ' E' S' G' => ?_
          · obtain ⟨_, h2⟩ := bindArgs_get 0 args t u ht
            obtain ⟨y, hy, hr⟩ := hv.get _ u h2
            have hy' : cargs[t]? = some y := by simpa using hy
            have hlt := (Array.getElem?_eq_some_iff.1 hy').1
            refine ⟨y, ?_, hr⟩
            simp only
            rw [Array.getElem?_append_left hlt, hy']
          · simp; omega
          · obtain ⟨xs, h3, h4⟩ := res_sound (P := P) E' S' hrs hvs
            have hres : (results fn a'.tmps).run P w' = .ok (if h : xs.toArray.size = 1 then xs.toArray[0] else .tuple xs.toArray) w' := by
              have hf : (fun r => match r with
                  | ResultVar.tmp t => (pure (a'.tmps.getD t undef) : Sem Value)
                  | ResultVar.cell b t => do loadVar t (← asAddr (a'.tmps.getD b undef))) = resSem a'.tmps := by funext r; cases r <;> rfl
              have hm : (fn.results.mapM (resSem a'.tmps)).run P w' = .ok xs.toArray w' := by
                rw [Array.mapM_eq_mapM_toList]
                simp [h3]
              have he : results fn a'.tmps = (fn.results.mapM (resSem a'.tmps)).bind fun vs => Sem.pure (if h : vs.size = 1 then vs[0] else .tuple vs) := by
                rw [← hf]; rfl
              rw [he]
              show ((fn.results.mapM (resSem a'.tmps)) >>= fun vs => (pure (if h : vs.size = 1 then vs[0] else .tuple vs) : Sem Value)).run P w' = _
              rw [Sem.run_bind, hm]
              rfl
            have := pack_VR h4
            cases x with
            | normal => exact ⟨E'.defers, _, hres, _, ρ', rfl, this, S', G'⟩
            | ret => exact ⟨E'.defers, _, hres, _, ρ', rfl, this, S', G'⟩
            | exit id => exact absurd rfl (hx id)

theorem reno_lt {n b : Nat} (idx : List Nat) (h : b < n) : reno n idx b = b := by simp [reno, h]
/-- The renaming behind the new numbers. -/
def Rho.pickd (ρ : Rho) (n : Nat) (idx : List Nat) : Rho := fun b => if b < n then ρ b else match idx[b - n]? with
  | some i => ρ i
  | none => none
theorem Rho.pickd_reno {ρ : Rho} {n : Nat} {idx : List Nat} {b : Nat} (hb : n ≤ b → b ∈ idx) : ρ.pickd n idx (reno n idx b) = ρ b := by
  unfold Rho.pickd reno
  by_cases h : b < n
  · simp [h]
  · have hm := hb (by omega)
    rw [if_neg h, if_neg (by omega)]
    have : n + idx.idxOf b - n = idx.idxOf b := by omega
    rw [this]
    have hl := List.idxOf_lt_length_of_mem hm
    rw [List.getElem?_eq_getElem hl, List.getElem_idxOf hl]
theorem mem_refs {n b : Nat} {idx : List Nat} (h : ∀ x ∈ (if b < n then [] else [b]), x ∈ idx) : n ≤ b → b ∈ idx := fun hn => h b (by rw [if_neg (by omega)]; simp)
mutual
theorem VR.ren {ρ : Rho} {n : Nat} {idx : List Nat} : ∀ {v : AV} {x : Value}, (∀ b ∈ v.refs n, b ∈ idx) → VR ρ v x → VR (ρ.pickd n idx) (v.ren n idx) x
  | .b _, x, _, k => by cases x <;> simp_all [VR, AV.ren]
  | .i _ _, x, _, k => by cases x <;> simp_all [VR, AV.ren]
  | .f _ _, x, _, k => by cases x <;> simp_all [VR, AV.ren]
  | .s _, x, _, k => by cases x <;> simp_all [VR, AV.ren]
  | .p none, x, _, k => by rw [k.inv_pn]; simp [VR, AV.ren]
  | .p (some r), x, hb, k => by
    obtain ⟨a, rfl, m, hm, rfl⟩ := k.inv_p
    simp only [AV.refs] at hb
    simp only [AV.ren]
    exact VR.mk_p ⟨m, by rw [Rho.pickd_reno (mem_refs hb)]; exact hm, rfl⟩
  | .sl none len cap gr, x, _, k => by rw [k.inv_sln]; simp [VR, AV.ren]
  | .sl (some r) len cap none, x, hb, k => by
    obtain ⟨a, rfl, m, hm, rfl⟩ := k.inv_sle
    simp only [AV.refs] at hb
    simp only [AV.ren]
    exact VR.mk_sl ⟨m, by rw [Rho.pickd_reno (mem_refs hb)]; exact hm, rfl⟩
  | .sl (some r) len cap (some es), x, hb, k => by
    obtain ⟨a, c, rfl, ⟨m, hm, rfl⟩, h1, h2, h3⟩ := k.inv_slg
    simp only [AV.refs] at hb
    simp only [AV.ren]
    exact VR.mk_slg (by rw [Rho.pickd_reno (mem_refs hb)]; exact hm) rfl h1 h2 (h3 m hm)
  | .fn f caps, x, hb, k => by
    obtain ⟨cs, rfl, h1⟩ := k.inv_fn
    simp only [AV.refs] at hb
    simp only [VR, AV.ren]
    exact ⟨trivial, trivial, VRs.ren hb h1⟩
  | .nilF, x, _, k => by cases x <;> simp_all [VR, AV.ren]
  | .nilI, x, _, k => by cases x <;> simp_all [VR, AV.ren]
  | .ifc t v, x, hb, k => by
    obtain ⟨x', rfl, h1⟩ := k.inv_ifc
    simp only [AV.refs] at hb
    simp only [VR, AV.ren]
    exact ⟨trivial, VR.ren hb h1⟩
  | .agg cs, x, hb, k => by
    obtain ⟨xs, rfl, h1⟩ := k.inv_agg
    simp only [AV.refs] at hb
    simp only [VR, AV.ren]
    exact VRs.ren hb h1
  | .tup cs, x, hb, k => by
    obtain ⟨xs, rfl, h1⟩ := k.inv_tup
    simp only [AV.refs] at hb
    simp only [VR, AV.ren]
    exact VRs.ren hb h1
theorem VRs.ren {ρ : Rho} {n : Nat} {idx : List Nat} : ∀ {vs : List AV} {xs : List Value}, (∀ b ∈ refsL n vs, b ∈ idx) → VRs ρ vs xs → VRs (ρ.pickd n idx) (renL n idx vs) xs
  | [], xs, _, k => by rw [k.inv_nil]; simp [VRs, renL]
  | v :: vs, xs, hb, k => by
    obtain ⟨x, xs', rfl, h1, h2⟩ := k.inv_cons
    simp only [refsL, List.mem_append] at hb
    simp only [VRs, renL]
    exact ⟨VR.ren (fun b h => hb b (.inl h)) h1, VRs.ren (fun b h => hb b (.inr h)) h2⟩
end
theorem renL_get {n : Nat} {idx : List Nat} : ∀ {vs : List AV} {i : Nat} {u : AV}, (renL n idx vs)[i]? = some u → ∃ v, vs[i]? = some v ∧ u = v.ren n idx
  | [], i, u, h => by simp [renL] at h
  | v :: vs, 0, u, h => by simp [renL] at h; exact ⟨v, rfl, h.symm⟩
  | v :: vs, i + 1, u, h => by simp [renL] at h; simpa using renL_get h
theorem refsL_get {n : Nat} : ∀ {vs : List AV} {i : Nat} {v : AV}, vs[i]? = some v → ∀ b ∈ v.refs n, b ∈ refsL n vs
  | [], i, v, h => by simp at h
  | u :: vs, 0, v, h => by simp at h; subst h; intro b hb; simp [refsL, hb]
  | u :: vs, i + 1, v, h => by simp at h; intro b hb; simp [refsL, refsL_get h b hb]
theorem AV.one_ren (n : Nat) (idx : List Nat) (v : AV) : (v.ren n idx).one = v.one := by
  cases v <;> simp [AV.ren, AV.one]
  case p r => cases r <;> simp [AV.ren]
  case sl r _ _ _ => cases r <;> simp [AV.ren]
theorem Rho.res_zero_le (ρ ρ' : Rho) : (ρ.res 0).le ρ' := fun b n hb => absurd (Rho.res_some hb).1 (by omega)

/-- What lies below all that is new is as it was. -/
theorem Sim.frame {ρ : Rho} {h : H} {w w' : World} (S : Sim W0 ρ h w) (hb : Below W0.heap.size W0 w') (hs : w.heap.size ≤ w'.heap.size) (hk : ∀ c, c < w.heap.size → w'.heap[c]? = w.heap[c]?) : Sim W0 ρ h w' :=
  ⟨hb, fun b n h1 => ⟨(S.dom b n h1).1, Nat.lt_of_lt_of_le (S.dom b n h1).2 hs⟩, fun b n blk h1 h2 h3 => by
    obtain ⟨cells, ty, fr, e1, e2⟩ := S.live b n blk h1 h2 h3
    exact ⟨cells, ty, fr, by rw [hk n.c (S.dom b n h1).2]; exact e1, e2⟩, S.inj⟩

theorem evalF_still (Φ : Phi) : ∀ n, StillOk Φ.still (evalF Φ n)
  | 0, f, args, h, v, h', _, he => by simp [evalF] at he
  | n + 1, f, args, h, v, h', hs, he => by
    simp only [evalF] at he
    unfold Phi.still at hs
    split at he
    · cases he
    · split at he
      · cases he; exact List.prefix_refl _
      · cases he
    · split at he
      · split at he
        · split at he
          · cases he; exact List.prefix_refl _
          · cases he
        · cases he
      · cases he
    · split at he
      · split at he
        · cases he; exact List.prefix_refl _
        · cases he
      · cases he
    · rename_i hF
      simp [hF] at hs
    · rename_i hF
      simp [hF] at hs
    · split at he
      · split at he
        · rename_i hc
          cases he
          obtain ⟨t, rfl⟩ := hc.1
          rw [List.take_left' rfl]
          exact List.prefix_append _ _
        · cases he
      · cases he

theorem neat_sound {ρ ρ' : Rho} {h h1 : H} {w w' : World} {idx : List Nat} {u : AV} (S : Sim W0 ρ h w) (hn : NeatOk h idx u h1) (S' : Sim W0 ρ' h1 w') (G' : Grow ρ h w ρ' h1 w') :
    Sim W0 (ρ'.pickd h.length idx) (h1.take h.length ++ idx.map (renB h.length idx h1)) w' ∧ Grow ρ h w (ρ'.pickd h.length idx) (h1.take h.length ++ idx.map (renB h.length idx h1)) w' := by
  obtain ⟨hlen, hnd, hv, hidx, hold⟩ := hn
  have htl : (h1.take h.length).length = h.length := by simp; omega
  have lt (b : Nat) (hb : b < h.length) : ρ'.pickd h.length idx b = ρ' b := by simp [Rho.pickd, hb]
  have ge (b : Nat) (m : Ren) (hb : h.length ≤ b) (hr : ρ'.pickd h.length idx b = some m) : ∃ i, idx[b - h.length]? = some i ∧ ρ' i = some m := by
    unfold Rho.pickd at hr
    rw [if_neg (by omega)] at hr
    split at hr
    · rename_i i hi; exact ⟨i, hi, hr⟩
    · cases hr
  have getlt (b : Nat) (hb : b < h.length) : (h1.take h.length ++ idx.map (renB h.length idx h1))[b]? = h1[b]? := by
    rw [List.getElem?_append_left (by omega), List.getElem?_take_of_lt hb]
  have getge (b : Nat) (hb : h.length ≤ b) : (h1.take h.length ++ idx.map (renB h.length idx h1))[b]? = (idx[b - h.length]?).map (renB h.length idx h1) := by
    rw [List.getElem?_append_right (by omega), htl, List.getElem?_map]
  have mem (k i : Nat) (hi : idx[k]? = some i) : i ∈ idx := List.mem_of_getElem? hi
  have le2 : ρ.le (ρ'.pickd h.length idx) := fun b m hb => by
    have := (S.dom b m hb).1
    rw [lt b this]; exact G'.le b m hb
  have resle : (ρ'.res h.length).le (ρ'.pickd h.length idx) := fun b m hb => by
    obtain ⟨h2, h3⟩ := Rho.res_some hb
    rw [lt b h2]; exact h3
  refine ⟨⟨S'.below, fun b m hb => ?_, fun b m blk hr hb hd => ?_, fun b b' m m' blk blk' hr hr' hb hb' hd hd' hm hc => ?_⟩, ⟨le2, fun b hb => by rw [lt b hb]; exact G'.keep b hb, by simp; omega, G'.size, G'.streams, G'.same, fun b blk blk' hb hb' => ?_, fun b m blk' hb hr hb' hd => ?_⟩⟩
  · by_cases hlt : b < h.length
    · rw [lt b hlt] at hb
      exact ⟨by simp; omega, (S'.dom b m hb).2⟩
    · obtain ⟨i, hi, hr⟩ := ge b m (by omega) hb
      have := (List.getElem?_eq_some_iff.1 hi).1
      exact ⟨by simp; omega, (S'.dom i m hr).2⟩
  · by_cases hlt : b < h.length
    · rw [lt b hlt] at hr
      rw [getlt b hlt] at hb
      obtain ⟨cells, ty, fr, e1, e2, e3, e4⟩ := S'.live b m blk hr hb hd
      refine ⟨cells, ty, fr, e1, e2, fun i v hi => ?_, e4⟩
      obtain ⟨y, hy, hvr, ho⟩ := e3 i v hi
      refine ⟨y, hy, ?_, ho⟩
      rcases hold b hlt with heq | ⟨blk0, hb0, hl0⟩
      · rw [heq] at hb
        have hr0 : ρ b = some m := by rw [← G'.keep b hlt]; exact hr
        obtain ⟨cells', ty', fr', e1', e2', e3', e4'⟩ := S.live b m blk hr0 hb hd
        obtain ⟨y', _, hr', _⟩ := e3' i v hi
        exact (VR.down G'.le hr' hvr).mono le2
      · rw [hb0] at hb; cases hb
        exact (VR.cut (lims_get hi hl0) hvr).mono resle
    · obtain ⟨i, hi, hr⟩ := ge b m (by omega) hr
      rw [getge b (by omega), hi] at hb
      simp only [Option.map_some, Option.some.injEq] at hb
      obtain ⟨_, blk0, hb0, hcov⟩ := hidx i (mem _ _ hi)
      simp only [renB, hb0] at hb
      subst hb
      obtain ⟨cells, ty, fr, e1, e2, e3, e4⟩ := S'.live i m blk0 hr hb0 hd
      refine ⟨cells, ty, fr, e1, e2, fun j v hj => ?_, e4⟩
      obtain ⟨v0, hj0, rfl⟩ := renL_get hj
      obtain ⟨y, hy, hvr, ho⟩ := e3 j v0 hj0
      exact ⟨y, hy, VR.ren (fun b hb => hcov b (refsL_get hj0 b hb)) hvr, by rw [AV.one_ren]; exact ho⟩
  · have src (b : Nat) (m : Ren) (blk : Blk) (hr : ρ'.pickd h.length idx b = some m) (hb : (h1.take h.length ++ idx.map (renB h.length idx h1))[b]? = some blk) (hd : blk.md ≠ .dead) :
        ∃ s blk0, ρ' s = some m ∧ h1[s]? = some blk0 ∧ blk0.md ≠ .dead ∧ blk0.md = blk.md ∧ ((b < h.length ∧ s = b) ∨ (h.length ≤ b ∧ h.length ≤ s ∧ idx[b - h.length]? = some s)) := by
      by_cases hlt : b < h.length
      · rw [lt b hlt] at hr
        rw [getlt b hlt] at hb
        exact ⟨b, blk, hr, hb, hd, rfl, .inl ⟨hlt, rfl⟩⟩
      · obtain ⟨i, hi, hr⟩ := ge b m (by omega) hr
        rw [getge b (by omega), hi] at hb
        simp only [Option.map_some, Option.some.injEq] at hb
        obtain ⟨hge, blk0, hb0, hcov⟩ := hidx i (mem _ _ hi)
        simp only [renB, hb0] at hb
        subst hb
        exact ⟨i, blk0, hr, hb0, hd, rfl, .inr ⟨by omega, hge, hi⟩⟩
    obtain ⟨s, k, a1, a2, a3, a5, a4⟩ := src b m blk hr hb hd
    obtain ⟨s', k', b1, b2, b3, b5, b4⟩ := src b' m' blk' hr' hb' hd'
    have := S'.inj s s' m m' k k' a1 b1 a2 b2 a3 b3 (by rw [a5, b5]; exact hm) hc
    subst this
    rcases a4 with ⟨c1, c2⟩ | ⟨c1, c2, c3⟩ <;> rcases b4 with ⟨d1, d2⟩ | ⟨d1, d2, d3⟩
    · omega
    · omega
    · omega
    · have e1 := (List.getElem?_eq_some_iff.1 c3)
      have e2 := (List.getElem?_eq_some_iff.1 d3)
      obtain ⟨p1, p2⟩ := e1
      obtain ⟨q1, q2⟩ := e2
      have := (List.getElem_inj (h₀ := p1) (h₁ := q1) hnd).1 (p2.trans q2.symm)
      omega
  · rw [getlt b (at_lt hb)] at hb'
    exact G'.modes b blk blk' hb hb'
  · obtain ⟨i, hi, hr⟩ := ge b m hb hr
    rw [getge b hb, hi] at hb'
    simp only [Option.map_some, Option.some.injEq] at hb'
    obtain ⟨hge, blk0, hb0, hcov⟩ := hidx i (mem _ _ hi)
    simp only [renB, hb0] at hb'
    subst hb'
    exact G'.fresh i m blk0 hge hr hb0 hd

/-- THE MACHINE IS SOUND. -/
theorem evalF_sound {Φ : Phi} (hmix : P.follows .mixedOrders = true) (hΦ : ∀ f m, Φ f = some m → MeansOk P f m) : ∀ n, CallerOk P (evalF Φ n)
  | 0 => fun f args h v h' he => by simp [evalF] at he
  | n + 1 => fun f args h v h' he W0 ρ w cargs S hv => by
    have hC := evalF_sound hmix hΦ n
    simp only [evalF] at he
    split at he
    · cases he
    · rename_i g hg
      split at he
      · rename_i u hu
        cases he
        exact hΦ f _ hg args _ hu W0 ρ h w cargs S hv
      · cases he
    · -- in a memory of its own
      rename_i F hF
      split at he
      case isFalse => cases he
      rename_i hargs
      split at he
      case h_2 => cases he
      rename_i u h1 hrun
      split at he
      case isFalse => cases he
      rename_i hu
      cases he
      have S0 : Sim W0 (ρ.res 0) [] w := ⟨S.below, fun b m hb => absurd (Rho.res_some hb).1 (by omega), fun b m blk hb => absurd (Rho.res_some hb).1 (by omega), fun b b' m m' k k' hb => absurd (Rho.res_some hb).1 (by omega)⟩
      obtain ⟨h2, h3⟩ := body_sound hC (evalF_still Φ n) hmix (hΦ f _ hF) hrun W0 (ρ.res 0) w cargs S0 (VRs.cut hargs hv)
      refine .inr ⟨h2, Calls.mono h3 fun e w' hh => ?_⟩
      obtain ⟨x, ρ', rfl, hvx, S', G'⟩ := hh
      have hsame : ∀ c, c < w.heap.size → w'.heap[c]? = w.heap[c]? := fun c hc => G'.same c hc fun b m blk hb => absurd (Rho.res_some hb).1 (by omega)
      refine ⟨x, ρ, rfl, (VR.cut hu hvx).mono (Rho.res_zero_le ρ' ρ), S.frame S'.below G'.size hsame, ?_⟩
      have g0 := Grow.refl ρ h w
      exact ⟨g0.le, g0.keep, g0.len, G'.size, G'.streams, fun c hc _ => hsame c hc, g0.modes, fun b m blk' hb hr hb' hd => by have := (S.dom b m hr).1; omega⟩
    · -- what it has made is forgotten
      rename_i F hF
      split at he
      case h_2 => cases he
      rename_i u h1 hrun
      split at he
      case isFalse => cases he
      rename_i hcond
      obtain ⟨hpre, hbel⟩ := hcond
      cases he
      obtain ⟨h2, h3⟩ := body_sound hC (evalF_still Φ n) hmix (hΦ f _ hF) hrun W0 ρ w cargs S hv
      refine .inr ⟨h2, Calls.mono h3 fun e w' hh => ?_⟩
      obtain ⟨x, ρ', rfl, hvx, S', G'⟩ := hh
      have hres : ρ'.res h.length = ρ := by
        funext b
        unfold Rho.res
        split
        · rename_i hb; exact G'.keep b hb
        · rename_i hb
          cases hr : ρ b with
          | none => rfl
          | some m => have := (S.dom b m hr).1; omega
      refine ⟨x, ρ, rfl, by rw [← hres]; exact VR.cut hbel hvx, ?_, ?_⟩
      · refine ⟨S'.below, fun b m hb => ⟨(S.dom b m hb).1, Nat.lt_of_lt_of_le (S.dom b m hb).2 G'.size⟩, fun b m blk hb hk hd => ?_, S.inj⟩
        obtain ⟨cells, ty, fr, e1, e2, e3, e4⟩ := S'.live b m blk (G'.le b m hb) (pre_get' hpre hk) hd
        obtain ⟨cells', ty', fr', e1', e2', e3', e4'⟩ := S.live b m blk hb hk hd
        refine ⟨cells, ty, fr, e1, e2, fun i v hi => ?_, e4⟩
        obtain ⟨y, hy, hr, ho⟩ := e3 i v hi
        obtain ⟨y', _, hr', _⟩ := e3' i v hi
        exact ⟨y, hy, VR.down G'.le hr' hr, ho⟩
      · have g0 := Grow.refl ρ h w
        exact ⟨g0.le, g0.keep, g0.len, G'.size, G'.streams, G'.same, g0.modes, fun b m blk' hb hr hb' hd => by have := (S.dom b m hr).1; omega⟩
    · -- as it is
      rename_i F hF
      exact .inr (body_sound hC (evalF_still Φ n) hmix (hΦ f _ hF) he W0 ρ w cargs S hv)
    · -- neatly
      rename_i d F hF
      split at he
      case h_2 => cases he
      rename_i u h1 hrun
      split at he
      case isFalse => cases he
      rename_i hn
      generalize reach h.length h1 d [u] = idx at he hn
      cases he
      obtain ⟨h2, h3⟩ := body_sound hC (evalF_still Φ n) hmix (hΦ f _ hF) hrun W0 ρ w cargs S hv
      refine .inr ⟨h2, Calls.mono h3 fun e w' hh => ?_⟩
      obtain ⟨x, ρ', rfl, hvx, S', G'⟩ := hh
      exact ⟨x, ρ'.pickd h.length idx, rfl, VR.ren hn.2.2.1 hvx, neat_sound S hn S' G'⟩
    · rename_i d F hF
      split at he
      case h_2 => cases he
      rename_i u h1 hrun
      split at he
      case isFalse => cases he
      rename_i hn
      replace hn := hn.2
      generalize reach h.length h1 d [u] = idx at he hn
      cases he
      obtain ⟨h2, h3⟩ := body_sound hC (evalF_still Φ n) hmix (hΦ f _ hF) hrun W0 ρ w cargs S hv
      refine .inr ⟨h2, Calls.mono h3 fun e w' hh => ?_⟩
      obtain ⟨x, ρ', rfl, hvx, S', G'⟩ := hh
      exact ⟨x, ρ'.pickd h.length idx, rfl, VR.ren hn.2.2.1 hvx, neat_sound S hn S' G'⟩
end
end Go.V
