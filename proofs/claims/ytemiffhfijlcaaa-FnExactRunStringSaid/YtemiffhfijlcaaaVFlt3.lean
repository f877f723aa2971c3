import Derived.Test.YtemiffhfijlcaaaVFlt2
set_option linter.unusedSimpArgs false
set_option linter.unusedVariables false
set_option linter.unusedSectionVars false
/-! A square root fits a float32. -/
namespace Go.V
open Go Ieee

theorem log2_le_of_lt {m k : Nat} (h : m < 2 ^ (k + 1)) : m.log2 ≤ k := by
  by_cases h0 : m = 0
  · subst h0; simp
  · have := (Nat.log2_lt h0).2 h; omega

theorem read_nearest (f : Format) {neg s : Bool} {mag M : Nat} {place P : Int} (h : f.read (f.nearest neg mag place) = .number s M P) : P + (M.log2 : Int) ≤ max (place + (mag.log2 : Int)) (f.leastPlace + f.fractionBits) + 2 := by
  have hbpos : 0 < f.binade := Nat.two_pow_pos _
  -- the rung
  obtain ⟨rung, hr, hle, hinf⟩ : ∃ rung, f.nearest neg mag place = f.word neg rung ∧ rung ≤ ((max (place + (mag.log2 : Int) - f.fractionBits) f.leastPlace - f.leastPlace).toNat + 2) * f.binade ∧ rung ≤ f.infRung := by
    unfold Format.nearest
    split
    · exact ⟨0, rfl, Nat.zero_le _, Nat.zero_le _⟩
    · refine ⟨_, rfl, ?_, Nat.min_le_right _ _⟩
      have hk := kept_le neg mag f.fractionBits place (max (place + (mag.log2 : Int) - f.fractionBits) f.leastPlace) (Int.le_max_left _ _)
      have h3 : 2 ^ (f.fractionBits + 1) = 2 * f.binade := by unfold Format.binade; rw [Nat.pow_succ]; omega
      refine Nat.le_trans (Nat.min_le_left _ _) ?_
      rw [Nat.add_mul]
      omega
  rw [hr] at h
  have hlt : rung < f.signWeight := Nat.lt_of_le_of_lt hinf f.infRung_lt
  have hm : f.word neg rung % f.signWeight = rung := by
    unfold Format.word
    split
    · rw [Nat.add_mod_left, Nat.mod_eq_of_lt hlt]
    · exact Nat.mod_eq_of_lt hlt
  unfold Format.read at h
  simp only [hm] at h
  split at h
  · rename_i hlow
    cases h
    have : M.log2 ≤ f.fractionBits := log2_le_of_lt (Nat.lt_trans hlow (Nat.pow_lt_pow_right (by omega) (by omega)))
    have := Int.le_max_right (place + (mag.log2 : Int)) (f.leastPlace + f.fractionBits)
    omega
  · split at h
    · simp only [Datum.number.injEq] at h
      obtain ⟨_, rfl, rfl⟩ := h
      have hM : (f.binade + rung % f.binade).log2 ≤ f.fractionBits := by
        apply log2_le_of_lt
        have := Nat.mod_lt rung hbpos
        have h3 : 2 ^ (f.fractionBits + 1) = 2 * f.binade := by unfold Format.binade; rw [Nat.pow_succ]; omega
        omega
      have hq : rung / f.binade ≤ (max (place + (mag.log2 : Int) - f.fractionBits) f.leastPlace - f.leastPlace).toNat + 2 := by
        have := Nat.div_le_div_right (c := f.binade) hle
        rwa [Nat.mul_div_cancel _ hbpos] at this
      omega
    · split at h <;> cases h

theorem down_ok {neg : Bool} {mag : Nat} {place : Int} (h : place + (mag.log2 : Int) ≤ 100) : ∃ r, fcvt .f64 (double.nearest neg mag place) .f32 = some r := by
  have hl : double.leastPlace = -1074 := by decide
  have hf : double.fractionBits = 52 := rfl
  have hx : 2 ^ double.exponentBits - 1 = 2047 := by decide
  have hl1 : single.leastPlace = -149 := by decide
  have hf1 : single.fractionBits = 23 := rfl
  have hx1 : 2 ^ single.exponentBits - 1 = 255 := by decide
  unfold fcvt
  simp only [reduceCtorEq, if_false]
  cases hd : FloatKind.f64.decode (double.nearest neg mag place) with
  | nan s t => exact ⟨_, rfl⟩
  | infinity s => exact ⟨_, rfl⟩
  | number s M P =>
    have hb := read_nearest double (neg := neg) (mag := mag) (place := place) hd
    rw [hl, hf] at hb
    have : (FloatKind.f32.decode (FloatKind.f32.encode (.number s M P))).isInfinity = false := by
      refine nearest_fin single s M P ?_
      rw [hl1, hf1, hx1]
      omega
    simp [this]

theorem rootFrom_sq (n : Nat) : ∀ (todo root : Nat), root * root ≤ n → Datum.rootFrom n todo root * Datum.rootFrom n todo root ≤ n
  | 0, root, h => h
  | todo + 1, root, h => by
    simp only [Datum.rootFrom]
    apply rootFrom_sq n todo
    split
    · assumption
    · exact h

/-- The root of a number that is not too great. -/
theorem root_bound {digits m : Nat} {i : Int} {s s' : Bool} {M : Nat} {P : Int} (h : (Datum.number s m i).root digits = some (.number s' M P)) (hi : i + (m.log2 : Int) ≤ 180) : P + (M.log2 : Int) ≤ 100 ∨ (M = 0 ∧ P = i) := by
  simp only [Datum.root] at h
  split at h
  · simp only [Option.some.injEq, Datum.number.injEq] at h
    obtain ⟨_, rfl, rfl⟩ := h
    right; exact ⟨by assumption, rfl⟩
  · split at h
    · cases h
    · rename_i h0 _
      left
      simp only [Option.some.injEq, Datum.number.injEq] at h
      obtain ⟨_, rfl, rfl⟩ := h
      generalize hmore : 2 * digits - m.log2 + ((i - ↑(2 * digits - m.log2)) % 2).toNat = more
      generalize hn : m <<< more = n
      have hsq := rootFrom_sq n (n.log2 / 2 + 1) 0 (Nat.zero_le _)
      generalize Datum.rootFrom n (n.log2 / 2 + 1) 0 = whole at hsq
      have hnlt : n < 2 ^ (m.log2 + 1 + more) := by
        rw [← hn, Nat.shiftLeft_eq, Nat.pow_add]
        exact Nat.mul_lt_mul_of_pos_right (lt_two_pow_log2 m) (Nat.two_pow_pos _)
      have hw : whole < 2 ^ ((m.log2 + 1 + more) / 2 + 1) := by
        rcases Nat.lt_or_ge whole (2 ^ ((m.log2 + 1 + more) / 2 + 1)) with h1 | h1
        · exact h1
        · exfalso
          have h2 := Nat.mul_le_mul h1 h1
          rw [← Nat.pow_add] at h2
          have h3 : 2 ^ (m.log2 + 1 + more) ≤ 2 ^ ((m.log2 + 1 + more) / 2 + 1 + ((m.log2 + 1 + more) / 2 + 1)) := Nat.pow_le_pow_right (by omega) (by omega)
          omega
      have hb : ∀ b : Bool, b.toNat ≤ 1 := fun b => by cases b <;> decide
      have hM : (2 * whole + (whole * whole != n).toNat).log2 ≤ (m.log2 + 1 + more) / 2 + 1 := by
        apply log2_le_of_lt
        have := hb (whole * whole != n)
        rw [Nat.pow_succ]
        omega
      have : (i - more) / 2 ≤ (i - more + 1) / 2 := by omega
      omega

theorem fcvt_nan : ∃ r, fcvt .f64 (nanB .f64) .f32 = some r := by
  obtain ⟨s, t, h⟩ := read_nan (isNaN_nanB .f64)
  unfold fcvt
  simp only [reduceCtorEq, if_false]
  rw [show FloatKind.f64.decode (nanB .f64) = .nan s t from h]
  exact ⟨_, rfl⟩
theorem read_inf (s : Bool) : FloatKind.f64.decode (FloatKind.f64.encode (.infinity s)) = .infinity s := by cases s <;> decide +kernel
theorem fcvt_inf (s : Bool) : ∃ r, fcvt .f64 (FloatKind.f64.encode (.infinity s)) .f32 = some r := by
  unfold fcvt
  simp only [reduceCtorEq, if_false, read_inf]
  exact ⟨_, rfl⟩
theorem sqrt_down (x : Nat) : ∃ r, fcvt .f64 (fsqrt .f64 (up x)) .f32 = some r := by
  have hup := fcvt_up x
  unfold fsqrt Format.sqrt
  unfold fcvt at hup
  simp only [reduceCtorEq, if_false] at hup
  cases hd : FloatKind.f32.decode x with
  | nan s t =>
    rw [hd] at hup
    simp only [Option.some.injEq] at hup
    rw [← hup]
    obtain ⟨s', t', h⟩ := read_nan (isNaN_nanB .f64)
    rw [h]
    exact fcvt_nan
  | infinity s =>
    rw [hd] at hup
    simp only [Option.some.injEq] at hup
    rw [← hup]
    have := read_inf s
    rw [show FloatKind.f64.format.read (FloatKind.f64.encode (.infinity s)) = .infinity s from this]
    cases s
    · exact fcvt_inf false
    · exact fcvt_nan
  | number s m e =>
    rw [hd] at hup
    obtain ⟨hm, he⟩ := read_single hd
    simp only at hup
    split at hup
    · cases hup
    · rename_i hfin
      simp only [Option.some.injEq] at hup
      rw [← hup]
      have hlog : m.log2 ≤ 23 := log2_le_of_lt hm
      cases hr : FloatKind.f64.format.read (FloatKind.f64.encode (.number s m e)) with
      | nan s' t' => exact fcvt_nan
      | infinity s' => exact absurd (show (FloatKind.f64.decode (FloatKind.f64.encode (.number s m e))).isInfinity = true by rw [show FloatKind.f64.decode (FloatKind.f64.encode (.number s m e)) = .infinity s' from hr]; rfl) hfin
      | number s' M P =>
        have hb := read_nearest double (neg := s) (mag := m) (place := e) hr
        have hl : double.leastPlace = -1074 := by decide
        have hf : double.fractionBits = 52 := rfl
        rw [hl, hf] at hb
        cases hroot : (Datum.number s' M P).root (FloatKind.f64.format.fractionBits + 2) with
        | none => exact fcvt_nan
        | some d =>
          cases d with
          | nan _ _ => simp only [Datum.root] at hroot; split at hroot <;> first | (cases hroot; done) | (split at hroot <;> cases hroot)
          | infinity _ => simp only [Datum.root] at hroot; split at hroot <;> first | (cases hroot; done) | (split at hroot <;> cases hroot)
          | number s2 M2 P2 =>
            show ∃ r, fcvt .f64 (double.nearest s2 M2 P2) .f32 = some r
            rcases root_bound hroot (by omega) with h1 | ⟨h1, h2⟩
            · exact down_ok h1
            · subst h1
              have : double.nearest s2 0 P2 = double.nearest s2 0 0 := by unfold Format.nearest; rw [if_pos rfl, if_pos rfl]
              rw [this]
              exact down_ok (by decide)
/-- The root of a float32. -/
def root32 (x : Nat) : Nat := (fcvt .f64 (fsqrt .f64 (up x)) .f32).getD 0
theorem fcvt_root (x : Nat) : fcvt .f64 (fsqrt .f64 (up x)) .f32 = some (root32 x) := by
  obtain ⟨r, h⟩ := sqrt_down x
  unfold root32
  rw [h]; rfl
end Go.V
