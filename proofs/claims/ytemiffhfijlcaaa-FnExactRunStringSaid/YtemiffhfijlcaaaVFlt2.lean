import Derived.Test.YtemiffhfijlcaaaVFlt
set_option linter.unusedSimpArgs false
set_option linter.unusedVariables false
set_option linter.unusedSectionVars false
/-! Conversions that cannot overflow. -/
namespace Go.V
open Go Ieee

theorem lt_two_pow_log2 (m : Nat) : m < 2 ^ (m.log2 + 1) := Nat.lt_log2_self

/-- What is kept of a number at its last place. -/
theorem kept_le (neg : Bool) (mag fr : Nat) (place last : Int) (h : place + (mag.log2 : Int) - fr ≤ last) : Toward.even.cut neg (mag <<< (place - last).toNat) (last - place).toNat ≤ 2 ^ (fr + 1) := by
  have hm := lt_two_pow_log2 mag
  rcases Int.le_total last place with hp | hp
  · -- nothing is dropped
    have h0 : (last - place).toNat = 0 := by omega
    rw [h0]
    unfold Toward.cut
    have hg : (1 : Nat) <<< min 0 ((mag <<< (place - last).toNat).log2 + 2) = 1 := by simp
    simp only [hg, Nat.div_one, Nat.mod_one]
    have hl : mag <<< (place - last).toNat < 2 ^ (fr + 1) := by
      rw [Nat.shiftLeft_eq]
      have h1 : mag * 2 ^ (place - last).toNat < 2 ^ (mag.log2 + 1) * 2 ^ (place - last).toNat := Nat.mul_lt_mul_of_pos_right hm (Nat.two_pow_pos _)
      rw [← Nat.pow_add] at h1
      exact Nat.lt_of_lt_of_le h1 (Nat.pow_le_pow_right (by omega) (by omega))
    simp
    omega
  · have h0 : (place - last).toNat = 0 := by omega
    rw [h0]
    simp only [Nat.shiftLeft_zero]
    unfold Toward.cut
    simp only [Nat.shiftLeft_eq, Nat.one_mul]
    have hlow : mag / 2 ^ min (last - place).toNat (mag.log2 + 2) < 2 ^ (fr + 1) := by
      by_cases hd : (last - place).toNat ≤ mag.log2
      · rw [Nat.min_eq_left (by omega)]
        rw [Nat.div_lt_iff_lt_mul (Nat.two_pow_pos _), ← Nat.pow_add]
        exact Nat.lt_of_lt_of_le hm (Nat.pow_le_pow_right (by omega) (by omega))
      · have : mag / 2 ^ min (last - place).toNat (mag.log2 + 2) = 0 := by
          apply Nat.div_eq_of_lt
          exact Nat.lt_of_lt_of_le hm (Nat.pow_le_pow_right (by omega) (by omega))
        rw [this]; exact Nat.two_pow_pos _
    have hb : ∀ b : Bool, b.toNat ≤ 1 := fun b => by cases b <;> decide
    have := hb (decide (2 ^ min (last - place).toNat (mag.log2 + 2) < 2 * (mag % 2 ^ min (last - place).toNat (mag.log2 + 2))) || (2 ^ min (last - place).toNat (mag.log2 + 2) == 2 * (mag % 2 ^ min (last - place).toNat (mag.log2 + 2)) && mag / 2 ^ min (last - place).toNat (mag.log2 + 2) % 2 == 1))
    omega

theorem read_word_fin (f : Format) (neg : Bool) {rung : Nat} (h : rung < f.infRung) : (f.read (f.word neg rung)).isInfinity = false := by
  have hlt : rung < f.signWeight := Nat.lt_trans h f.infRung_lt
  have hm : f.word neg rung % f.signWeight = rung := by
    unfold Format.word
    split
    · rw [Nat.add_mod_left, Nat.mod_eq_of_lt hlt]
    · exact Nat.mod_eq_of_lt hlt
  unfold Format.read
  simp only [hm]
  split
  · rfl
  · rfl

theorem nearest_fin (f : Format) (neg : Bool) (mag : Nat) (place : Int) (h : (max (place + (mag.log2 : Int) - f.fractionBits) f.leastPlace - f.leastPlace).toNat + 2 < 2 ^ f.exponentBits - 1) : (f.read (f.nearest neg mag place)).isInfinity = false := by
  unfold Format.nearest
  have hpos : 0 < f.infRung := Nat.mul_pos (by omega) (Nat.two_pow_pos _)
  split
  · exact read_word_fin f neg hpos
  · refine read_word_fin f neg ?_
    have hk := kept_le neg mag f.fractionBits place (max (place + (mag.log2 : Int) - f.fractionBits) f.leastPlace) (Int.le_max_left _ _)
    refine Nat.lt_of_le_of_lt (Nat.min_le_left _ _) ?_
    unfold Format.infRung
    have h2 : ((max (place + (mag.log2 : Int) - f.fractionBits) f.leastPlace - f.leastPlace).toNat + 2) * f.binade < (2 ^ f.exponentBits - 1) * f.binade := Nat.mul_lt_mul_of_pos_right h (Nat.two_pow_pos _)
    have h3 : 2 ^ (f.fractionBits + 1) = 2 * f.binade := by unfold Format.binade; rw [Nat.pow_succ]; omega
    rw [Nat.add_mul] at h2
    omega

/-- A float32 as a float64. -/
def up (x : Nat) : Nat := (fcvt .f32 x .f64).getD 0
theorem read_single {x : Nat} {s : Bool} {m : Nat} {e : Int} (h : single.read x = .number s m e) : m < 2 ^ 24 ∧ e ≤ 104 := by
  unfold Format.read at h
  have hb : single.binade = 8388608 := by decide
  have hi : single.infRung = 2139095040 := by decide
  have hl : single.leastPlace = -149 := by decide
  simp only [hb, hi, hl] at h
  split at h
  · cases h; constructor <;> omega
  · split at h
    · cases h; constructor <;> omega
    · split at h <;> cases h
theorem fcvt_up (x : Nat) : fcvt .f32 x .f64 = some (up x) := by
  unfold up fcvt
  simp only [reduceCtorEq, if_false]
  cases hd : FloatKind.f32.decode x with
  | nan s t => rfl
  | infinity s => rfl
  | number s m e =>
    obtain ⟨hm, he⟩ := read_single hd
    have hlog : m.log2 < 24 := by
      by_cases h0 : m = 0
      · subst h0; decide
      · exact (Nat.log2_lt h0).2 hm
    have : (FloatKind.f64.decode (FloatKind.f64.encode (.number s m e))).isInfinity = false := by
      refine nearest_fin double s m e ?_
      have hl : double.leastPlace = -1074 := by decide
      have hf : double.fractionBits = 52 := rfl
      have hx : 2 ^ double.exponentBits - 1 = 2047 := by decide
      rw [hl, hf, hx]
      omega
    simp [this]
end Go.V
