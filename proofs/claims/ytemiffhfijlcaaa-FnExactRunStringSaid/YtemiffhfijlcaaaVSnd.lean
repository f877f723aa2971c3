import Derived.Test.YtemiffhfijlcaaaVApp
set_option linter.unusedSimpArgs false
set_option linter.unusedVariables false
set_option linter.unusedSectionVars false
/-! Every operation of the small code, but calls. -/
namespace Go.V
open Go Go.RowKit
section ops
variable {P : Program} {W0 : World} {ρ : Rho} {h : H} {w : World}

/-- A value, wrapped, with its world. -/
theorem Out.ofW {v : AV} {h' : H} {s : Sem Value} (hh : ∃ x w' ρ', s.run P w = .ok x w' ∧ VR ρ' v x ∧ Sim W0 ρ' h' w' ∧ Grow ρ h w ρ' h' w') : Out P W0 ρ h w v h' (do pure (.value (← s))) := by
  obtain ⟨x, w', ρ', hr, hv, S, G⟩ := hh
  exact ⟨x, w', ρ', .inl (by simp [hr]), hv, S, G⟩
theorem Out.ofP (S : Sim W0 ρ h w) {v : AV} {s : Sem Value} (hh : ∃ x, s.run P w = .ok x w ∧ VR ρ v x) : Out P W0 ρ h w v h (do pure (.value (← s))) := by
  obtain ⟨x, hr, hv⟩ := hh
  exact Out.of S ⟨x, 0, hr, hv⟩

theorem zeros_VRs {z : List AV} {cs : List Value} (hz : VRs ρ z cs) (n : Nat) (c : Array Value) (hc : c.toList = cs) :
    VRs ρ (zeros n z) ((Array.range (n * c.size)).map (fun i => c[i % c.size]!)).toList := by
  have hl : z.length = c.size := by rw [hz.length, ← hc]; simp
  unfold zeros
  rw [hl]
  simp only [Array.toList_map, Array.toList_range]
  refine VRs.map _ _ _ fun i hi => ?_
  have hi' : i < n * c.size := List.mem_range.1 hi
  have hpos : 0 < c.size := by rcases Nat.eq_zero_or_pos c.size with e | e
                               · rw [e] at hi'; omega
                               · exact e
  have hlt : i % c.size < z.length := by rw [hl]; exact Nat.mod_lt _ hpos
  obtain ⟨x, hx, hr⟩ := hz.get (i % c.size) z[i % c.size] (List.getElem?_eq_getElem hlt)
  have e1 : z.getD (i % c.size) .nilI = z[i % c.size] := by simp [List.getD, List.getElem?_eq_getElem hlt]
  have hlt2 : i % c.size < c.size := by omega
  have e2 : c[i % c.size]! = x := by
    rw [← hc, Array.getElem?_toList, Array.getElem?_eq_getElem hlt2] at hx
    injection hx with hx
    rw [getElem!_pos c _ hlt2, hx]
  rw [e1, e2]
  exact hr
theorem zeros_one {z : List AV} (hz : z.all AV.one = true) (n : Nat) : (zeros n z).all AV.one = true := by
  rw [List.all_eq_true]
  intro x hx
  obtain ⟨i, _, rfl⟩ := List.mem_map.1 hx
  simp only [List.getD]
  cases e : z[i % z.length]? with
  | none => rfl
  | some y => exact List.all_eq_true.1 hz _ (List.mem_of_getElem? e)

theorem VRs.inv_nil' {vs : List AV} (h : VRs ρ vs []) : vs = [] := by cases vs <;> simp_all [VRs]
theorem sliceBound_run {k : IntKind} {i : Int} {y : Nat} {code : BoundsCode} (h0 : 0 ≤ i) (h1 : i ≤ y) : (Instr.sliceBound (.int k i) y code).run P w = .ok i.toNat w := by
  simp [Instr.sliceBound, asIntOf, h0, h1]
/-- The bounds of a slice. -/
theorem bnds_run {b : Bool} {len cap cap' : Nat} (hcap : cap ≤ cap') {lo hi mx : Option Operand} {σ : Operand → Value} {vs : List AV} {l m n : Nat}
    (hv : VRs ρ vs ((lo.toList ++ hi.toList ++ mx.toList).map σ)) (he : bnds len cap lo.isSome hi.isSome mx.isSome vs = some (l, n, m)) :
    (Instr.sliceBounds b len cap' (lo.map σ) (hi.map σ) (mx.map σ)).run P w = .ok (l, n, if mx.isSome then m else cap') w ∧ (mx.isSome = false → m = cap) := by
  have int : ∀ {v : AV} {X : Value} {P' : IntKind → Int → Prop}, VR ρ v X → (∃ k i, v = .i k i ∧ P' k i) → ∃ k i, v = .i k i ∧ X = .int k i ∧ P' k i := fun hv ⟨k, i, e, hp⟩ => by
    subst e; exact ⟨k, i, rfl, hv.inv_i, hp⟩
  cases lo with
  | none => cases hi with
    | none => cases mx with
      | none =>
        have := hv.inv_nil'
        subst this
        simp [bnds] at he
        obtain ⟨rfl, rfl, rfl⟩ := he
        simp [Instr.sliceBounds]
      | some mx => obtain ⟨v, rfl, h1⟩ := VRs.one (by simpa using hv); cases v <;> simp [bnds] at he
    | some hi => cases mx with
      | none =>
        obtain ⟨v, rfl, h1⟩ := VRs.one (by simpa using hv)
        cases v <;> simp [bnds] at he
        obtain ⟨⟨c1, c2⟩, rfl, rfl, rfl⟩ := he
        have e1 := h1.inv_i
        simp [Instr.sliceBounds, e1, sliceBound_run (P := P) (w := w) c1 (show _ ≤ (cap' : Int) by omega)]
      | some mx =>
        obtain ⟨v, u, rfl, h1, h2⟩ := VRs.two (by simpa using hv)
        cases v <;> cases u <;> simp [bnds] at he
        obtain ⟨⟨c1, c2, c3⟩, rfl, rfl, rfl⟩ := he
        have e1 := h1.inv_i; have e2 := h2.inv_i
        rename_i k1 i1 k2 i2
        simp [Instr.sliceBounds, e1, e2, sliceBound_run (P := P) (w := w) (i := i2) (y := cap') (by omega) (by omega), sliceBound_run (P := P) (w := w) (i := i1) (y := i2.toNat) c1 (by omega)]
  | some lo => cases hi with
    | none => cases mx with
      | none =>
        obtain ⟨v, rfl, h1⟩ := VRs.one (by simpa using hv)
        cases v <;> simp [bnds] at he
        obtain ⟨⟨c1, c2⟩, rfl, rfl, rfl⟩ := he
        have e1 := h1.inv_i
        simp [Instr.sliceBounds, e1, sliceBound_run (P := P) (w := w) c1 c2]
      | some mx => obtain ⟨v, u, rfl, h1, h2⟩ := VRs.two (by simpa using hv); cases v <;> cases u <;> simp [bnds] at he
    | some hi => cases mx with
      | none =>
        obtain ⟨v, u, rfl, h1, h2⟩ := VRs.two (by simpa using hv)
        cases v <;> cases u <;> simp [bnds] at he
        obtain ⟨⟨c1, c2, c3⟩, rfl, rfl, rfl⟩ := he
        have e1 := h1.inv_i; have e2 := h2.inv_i
        rename_i k1 i1 k2 i2
        simp [Instr.sliceBounds, e1, e2, sliceBound_run (P := P) (w := w) (i := i2) (y := cap') (by omega) (by omega), sliceBound_run (P := P) (w := w) (i := i1) (y := i2.toNat) c1 (by omega)]
      | some mx =>
        obtain ⟨v, u, t, rfl, h1, h2, h3⟩ := VRs.three (by simpa using hv)
        cases v <;> cases u <;> cases t <;> simp [bnds] at he
        obtain ⟨⟨c1, c2, c3, c4⟩, rfl, rfl, rfl⟩ := he
        have e1 := h1.inv_i; have e2 := h2.inv_i; have e3 := h3.inv_i
        rename_i k1 i1 k2 i2 k3 i3
        simp [Instr.sliceBounds, e1, e2, e3, sliceBound_run (P := P) (w := w) (i := i3) (y := cap') (by omega) (by omega), sliceBound_run (P := P) (w := w) (i := i2) (y := i3.toNat) (by omega) (by omega),
          sliceBound_run (P := P) (w := w) (i := i1) (y := i2.toNat) c1 (by omega)]

theorem sls_run {t e : TypeId} {es : Nat} (ht : P.underlying t = some (.slice e)) (hs : sizeT P e = some es) {r : Option Ref} {len cap : Nat} {gr : Option Nat} {X : Value} {v : AV} {lo hi mx : Option Operand} {σ : Operand → Value} {vs : List AV}
    (hX : VR ρ (.sl r len cap gr) X) (hv : VRs ρ vs ((lo.toList ++ hi.toList ++ mx.toList).map σ)) (he : evalP (.slS es lo.isSome hi.isSome mx.isSome) (.sl r len cap gr :: vs) = some v) :
    ∃ R, (Instr.sliceAt t X (lo.map σ) (hi.map σ) (mx.map σ)).run P w = .ok R w ∧ VR ρ v R := by
  simp only [evalP] at he
  split at he
  · cases he
  · rename_i l n m hb
    cases gr with
    | none =>
      simp only [Option.some.injEq] at he
      subst he
      obtain ⟨base, rfl, hbr⟩ : ∃ base, X = .slice base len cap ∧ ((r = none ∧ base = none) ∨ ∃ q a, r = some q ∧ base = some a ∧ RR ρ q a) := by
        cases r with
        | none => exact ⟨none, hX.inv_sln, .inl ⟨rfl, rfl⟩⟩
        | some q => obtain ⟨a, rfl, hr⟩ := hX.inv_sle; exact ⟨some a, rfl, .inr ⟨q, a, rfl, rfl, hr⟩⟩
      obtain ⟨hrun, hm⟩ := bnds_run (P := P) (w := w) (b := true) (Nat.le_refl cap) hv hb
      have hm' : (if mx.isSome = true then m else cap) = m := by
        split
        · rfl
        · rename_i e; exact (hm (by simpa using e)).symm
      rw [hm'] at hrun
      refine ⟨_, by simp only [Instr.sliceAt, Instr.slice, Sem.run_bind, run_underlying ht, Result.andThen_ok, hrun, sizeT_run hs, Sem.run_pure]; rfl, ?_⟩
      rcases hbr with ⟨rfl, rfl⟩ | ⟨q, a, rfl, rfl, hr⟩
      · split <;> simp [VR]
      · split
        · exact VR.mk_sl hr
        · exact VR.mk_sl (hr.add _)
    | some g =>
      cases r with
      | none => simp at he
      | some q =>
        obtain ⟨a, c, rfl, hr, h1, h2, h3⟩ := hX.inv_slg
        obtain ⟨hrun, hm⟩ := bnds_run (P := P) (w := w) (b := true) h2 hv hb
        simp only at he
        cases hmx : mx.isSome with
        | true =>
          rw [hmx] at he hrun
          simp only [if_true] at he hrun
          split at he
          · rename_i hlm
            simp only [Option.some.injEq] at he
            subst he
            refine ⟨_, by simp only [Instr.sliceAt, Instr.slice, Sem.run_bind, run_underlying ht, Result.andThen_ok, hrun, sizeT_run hs, Sem.run_pure]; rfl, ?_⟩
            rw [if_neg (by omega)]
            exact VR.mk_sl (hr.add _)
          · cases he
        | false =>
          rw [hmx] at he hrun
          have := hm hmx
          subst this
          simp only [Bool.false_eq_true, if_false] at he hrun
          split at he
          · rename_i hc
            obtain ⟨rfl, hc⟩ := hc
            simp only [Option.some.injEq] at he
            subst he
            have hln : l ≤ n ∧ n ≤ m := by
              revert hb
              rw [hmx]
              cases lo.isSome <;> cases hi.isSome <;> intro hb
              · cases vs <;> simp [bnds] at hb; omega
              · match vs, hb with
                | [.i _ x], hb => simp [bnds] at hb; omega
              · match vs, hb with
                | [.i _ x], hb => simp [bnds] at hb; omega
              · match vs, hb with
                | [.i _ x, .i _ y], hb => simp [bnds] at hb; omega
            refine ⟨.slice (some (if c = l then a else a.add (l * g))) (n - l) (c - l), ?_, ?_⟩
            · simp only [Instr.sliceAt, Instr.slice, Sem.run_bind, run_underlying ht, Result.andThen_ok, hrun, sizeT_run hs, Sem.run_pure]
              split <;> rfl
            · have hadd : (if c = l then a else a.add (l * g)) = a.add (l * g) := by
                split
                · have : l = 0 := by omega
                  subst this; simp [Addr.add]
                · rfl
              rw [hadd]
              obtain ⟨n', hn', rfl⟩ := hr
              have h4 := h3 n' hn'
              refine VR.mk_slg (m := n') hn' (by rw [Addr.add_lit]; simp [Ref.add, Nat.add_assoc]) (by omega) (by omega) ?_
              rw [Addr.add_lit]
              simp only at h4 ⊢
              have : c * g = l * g + (c - l) * g := by rw [← Nat.add_mul]; congr 1; omega
              omega
          · cases he
end ops
end Go.V
