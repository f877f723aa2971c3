import Derived.Calls
import Derived.Orders
import Derived.Below
import Derived.Laws.FloatArith
import Derived.KernelRfl
set_option linter.unusedSimpArgs false
set_option linter.unusedVariables false
set_option linter.unusedSectionVars false
/-! Floats by canonical bits: all not-a-numbers are one value; each operation is a function. -/
namespace Go.V
open Go

/-- The one not-a-number of a kind. -/
def nanB : FloatKind → Nat
  | .f32 => 2143289344
  | .f64 => 9221120237041090560

def isNaN (k : FloatKind) (b : Nat) : Bool := (k.format.read b).isNaN

/-- A float's canonical bits. -/
def cn (k : FloatKind) (b : Nat) : Nat := if isNaN k b then nanB k else b

theorem isNaN_nanB (k : FloatKind) : isNaN k (nanB k) = true := by cases k <;> decide +kernel

theorem cn_of_nan {k : FloatKind} {b : Nat} (h : isNaN k b = true) : cn k b = nanB k := by simp [cn, h]
theorem cn_of_not {k : FloatKind} {b : Nat} (h : isNaN k b = false) : cn k b = b := by simp [cn, h]
theorem isNaN_cn (k : FloatKind) (b : Nat) : isNaN k (cn k b) = isNaN k b := by
  cases h : isNaN k b
  · rw [cn_of_not h, h]
  · rw [cn_of_nan h, isNaN_nanB]
theorem cn_cn (k : FloatKind) (b : Nat) : cn k (cn k b) = cn k b := by
  cases h : isNaN k b
  · rw [cn_of_not h, cn_of_not h]
  · rw [cn_of_nan h, cn_of_nan (isNaN_nanB k)]

/-- What is known of a datum that is read off bits that are a not-a-number. -/
theorem read_nan {k : FloatKind} {b : Nat} (h : isNaN k b = true) : ∃ s t, k.format.read b = .nan s t := by
  unfold isNaN at h
  cases hd : k.format.read b with
  | number s m e => simp [hd, Ieee.Datum.isNaN] at h
  | infinity s => simp [hd, Ieee.Datum.isNaN] at h
  | nan s t => exact ⟨s, t, rfl⟩

section sums
variable {a b : Ieee.Datum}
theorem sum_nan_left (s : Bool) (t : Nat) (b : Ieee.Datum) : (Ieee.Datum.nan s t).sum b = none := by cases b <;> rfl
theorem sum_nan_right (s : Bool) (t : Nat) (a : Ieee.Datum) : a.sum (Ieee.Datum.nan s t) = none := by cases a <;> rfl
theorem product_nan_left (s : Bool) (t : Nat) (b : Ieee.Datum) : (Ieee.Datum.nan s t).product b = none := by cases b <;> rfl
theorem product_nan_right (s : Bool) (t : Nat) (a : Ieee.Datum) : a.product (Ieee.Datum.nan s t) = none := by cases a <;> rfl
theorem quotient_nan_left (n : Nat) (s : Bool) (t : Nat) (b : Ieee.Datum) : (Ieee.Datum.nan s t).quotient n b = none := by cases b <;> rfl
theorem quotient_nan_right (n : Nat) (s : Bool) (t : Nat) (a : Ieee.Datum) : a.quotient n (Ieee.Datum.nan s t) = none := by cases a <;> rfl
theorem order_nan_left (s : Bool) (t : Nat) (b : Ieee.Datum) : (Ieee.Datum.nan s t).order b = none := by cases b <;> rfl
theorem order_nan_right (s : Bool) (t : Nat) (a : Ieee.Datum) : a.order (Ieee.Datum.nan s t) = none := by cases a <;> rfl
theorem opposite_nan (s : Bool) (t : Nat) : (Ieee.Datum.nan s t).opposite = .nan (!s) t := rfl

/-- A datum that is no not-a-number. -/
def solid (d : Ieee.Datum) : Prop := d.isNaN = false
theorem sum_solid {r : Ieee.Datum} (h : a.sum b = some r) : solid r := by
  unfold solid
  cases a <;> cases b <;> simp [Ieee.Datum.sum] at h <;> first | (obtain ⟨_, rfl⟩ := h; rfl) | (subst h; rfl)
theorem product_solid {r : Ieee.Datum} (h : a.product b = some r) : solid r := by
  unfold solid
  cases a <;> cases b <;> simp [Ieee.Datum.product] at h <;> first | (obtain ⟨_, rfl⟩ := h; rfl) | (subst h; rfl)
theorem quotient_solid {n : Nat} {r : Ieee.Datum} (h : a.quotient n b = some r) : solid r := by
  unfold solid
  cases a with
  | nan s t => rw [quotient_nan_left] at h; cases h
  | infinity s =>
    cases b with
    | nan s' t => rw [quotient_nan_right] at h; cases h
    | infinity s' => simp [Ieee.Datum.quotient] at h
    | number s' m e => simp [Ieee.Datum.quotient] at h; subst h; rfl
  | number s m e =>
    cases b with
    | nan s' t => rw [quotient_nan_right] at h; cases h
    | infinity s' => simp [Ieee.Datum.quotient] at h; subst h; rfl
    | number s' m' e' =>
      simp only [Ieee.Datum.quotient] at h
      split at h
      · split at h
        · cases h
        · cases h; rfl
      · cases h; rfl
theorem root_solid {n : Nat} {r : Ieee.Datum} (h : a.root n = some r) : solid r := by
  unfold solid
  cases a with
  | nan s t => simp [Ieee.Datum.root] at h
  | infinity s => simp [Ieee.Datum.root] at h; obtain ⟨_, rfl⟩ := h; rfl
  | number s m e =>
    simp only [Ieee.Datum.root] at h
    split at h
    · cases h; rfl
    · split at h
      · cases h
      · cases h; rfl
end sums

/-- A rung up to infinity's reads as no not-a-number. -/
theorem read_word_solid (f : Ieee.Format) (neg : Bool) {rung : Nat} (h : rung ≤ f.infRung) : solid (f.read (f.word neg rung)) := by
  have hlt : rung < f.signWeight := Nat.lt_of_le_of_lt h f.infRung_lt
  have hm : f.word neg rung % f.signWeight = rung := by
    unfold Ieee.Format.word
    split
    · rw [Nat.add_mod_left, Nat.mod_eq_of_lt hlt]
    · exact Nat.mod_eq_of_lt hlt
  unfold solid Ieee.Format.read
  simp only [hm]
  split
  · rfl
  · split
    · rfl
    · rw [if_pos (by omega)]; rfl

/-- What is written of a datum that is none reads as none. -/
theorem write_solid (f : Ieee.Format) {d : Ieee.Datum} (h : solid d) : solid (f.read (f.write d)) := by
  cases d with
  | nan s t => cases h
  | infinity s => exact read_word_solid f s (Nat.le_refl _)
  | number s m e =>
    simp only [Ieee.Format.write, Ieee.Format.nearest]
    split
    · exact read_word_solid f s (Nat.zero_le _)
    · exact read_word_solid f s (Nat.min_le_right _ _)
theorem isNaN_write (k : FloatKind) {d : Ieee.Datum} (h : solid d) : isNaN k (k.format.write d) = false := write_solid k.format h

theorem floatBits_solid {op : BinOp} {k : FloatKind} {x y r : Nat} (h : floatBits op k x y = some r) : isNaN k r = false := by
  unfold floatBits at h
  split at h
  all_goals first | (cases h; done) | simp only [Ieee.Format.add, Ieee.Format.sub, Ieee.Format.mul, Ieee.Format.div, Option.map_eq_some_iff] at h
  · obtain ⟨d, h, rfl⟩ := h; exact isNaN_write k (sum_solid h)
  · obtain ⟨d, h, rfl⟩ := h; exact isNaN_write k (sum_solid h)
  · obtain ⟨d, h, rfl⟩ := h; exact isNaN_write k (product_solid h)
  · obtain ⟨d, h, rfl⟩ := h; exact isNaN_write k (quotient_solid h)

theorem floatBits_nan_left {op : BinOp} {k : FloatKind} {x : Nat} (y : Nat) (h : isNaN k x = true) : floatBits op k x y = none := by
  obtain ⟨s, t, hd⟩ := read_nan h
  unfold floatBits
  split <;> simp [Ieee.Format.add, Ieee.Format.sub, Ieee.Format.mul, Ieee.Format.div, hd, sum_nan_left, product_nan_left, quotient_nan_left]
theorem floatBits_nan_right {op : BinOp} {k : FloatKind} (x : Nat) {y : Nat} (h : isNaN k y = true) : floatBits op k x y = none := by
  obtain ⟨s, t, hd⟩ := read_nan h
  unfold floatBits
  split <;> simp [Ieee.Format.add, Ieee.Format.sub, Ieee.Format.mul, Ieee.Format.div, hd, opposite_nan, sum_nan_right, product_nan_right, quotient_nan_right]
theorem floatBits_cn (op : BinOp) (k : FloatKind) (x y : Nat) : floatBits op k (cn k x) (cn k y) = floatBits op k x y := by
  cases hx : isNaN k x
  · cases hy : isNaN k y
    · rw [cn_of_not hx, cn_of_not hy]
    · rw [floatBits_nan_right _ hy, cn_of_nan hy, floatBits_nan_right _ (isNaN_nanB k)]
  · rw [floatBits_nan_left _ hx, cn_of_nan hx, floatBits_nan_left _ (isNaN_nanB k)]

/-- '+', '-', '*', '/' of canonical bits. -/
def fop (op : BinOp) (k : FloatKind) (x y : Nat) : Nat := (floatBits op k x y).getD (nanB k)

theorem order_cn (k : FloatKind) (x y : Nat) : k.format.order (cn k x) (cn k y) = k.format.order x y := by
  unfold Ieee.Format.order
  cases hx : isNaN k x
  · cases hy : isNaN k y
    · rw [cn_of_not hx, cn_of_not hy]
    · obtain ⟨s, t, hd⟩ := read_nan hy
      obtain ⟨s', t', hd'⟩ := read_nan (isNaN_nanB k)
      rw [cn_of_nan hy, hd, hd', order_nan_right, order_nan_right]
  · obtain ⟨s, t, hd⟩ := read_nan hx
    obtain ⟨s', t', hd'⟩ := read_nan (isNaN_nanB k)
    rw [cn_of_nan hx, hd, hd', order_nan_left, order_nan_left]

/-- The six comparisons. -/
def fcmp (op : BinOp) (k : FloatKind) (x y : Nat) : Option Bool :=
  let c := k.format.order x y
  match op with
  | .eql => some (c == some .eq)
  | .neq => some (c != some .eq)
  | .lss => some (c == some .lt)
  | .leq => some (c == some .lt || c == some .eq)
  | .gtr => some (c == some .gt)
  | .geq => some (c == some .gt || c == some .eq)
  | _ => none
theorem fcmp_cn (op : BinOp) (k : FloatKind) (x y : Nat) : fcmp op k (cn k x) (cn k y) = fcmp op k x y := by simp only [fcmp, order_cn]

/-- The sign turned. -/
def fneg (k : FloatKind) (x : Nat) : Nat := if isNaN k x then nanB k else Op.negFloat k x
theorem read_flip (f : Ieee.Format) (b : Nat) : (f.read (b ^^^ 2 ^ (f.exponentBits + f.fractionBits))).isNaN = (f.read b).isNaN := by
  have hm : (b ^^^ 2 ^ (f.exponentBits + f.fractionBits)) % f.signWeight = b % f.signWeight := by
    unfold Ieee.Format.signWeight
    rw [Nat.xor_mod_two_pow]; simp
  unfold Ieee.Format.read
  simp only [hm]
  split
  · rfl
  · split
    · rfl
    · split <;> rfl
theorem isNaN_negFloat (k : FloatKind) (b : Nat) : isNaN k (Op.negFloat k b) = isNaN k b := read_flip k.format b
theorem cn_negFloat (k : FloatKind) (b : Nat) : cn k (Op.negFloat k b) = fneg k (cn k b) := by
  unfold fneg
  rw [isNaN_cn]
  cases h : isNaN k b
  · rw [cn_of_not h, cn_of_not (by rw [isNaN_negFloat, h])]; simp
  · rw [cn_of_nan (by rw [isNaN_negFloat, h])]; simp

/-- One kind of float turned into another; 'none' where the language fixes no value. -/
def fcvt (src : FloatKind) (x : Nat) (dst : FloatKind) : Option Nat :=
  if src = dst then some x else
  match src.decode x with
  | .nan _ _ => some (nanB dst)
  | .infinity s => some (dst.encode (.infinity s))
  | .number s m e => if (dst.decode (dst.encode (.number s m e))).isInfinity then none else some (dst.encode (.number s m e))

/-- A whole number as a float. -/
def fofInt (k : FloatKind) (n : Int) : Nat := k.nearest n
theorem isNaN_ofInt (k : FloatKind) (n : Int) : isNaN k (fofInt k n) = false := isNaN_write k (d := .number (n < 0) n.natAbs 0) rfl

/-- The square root. -/
def fsqrt (k : FloatKind) (x : Nat) : Nat := (k.format.sqrt x).getD (nanB k)
theorem sqrt_solid {k : FloatKind} {x r : Nat} (h : k.format.sqrt x = some r) : isNaN k r = false := by
  unfold Ieee.Format.sqrt at h
  rw [Option.map_eq_some_iff] at h
  obtain ⟨d, h, rfl⟩ := h
  exact isNaN_write k (root_solid h)
theorem sqrt_cn (k : FloatKind) (x : Nat) : k.format.sqrt (cn k x) = k.format.sqrt x := by
  cases h : isNaN k x
  · rw [cn_of_not h]
  · obtain ⟨s, t, hd⟩ := read_nan h
    obtain ⟨s', t', hd'⟩ := read_nan (isNaN_nanB k)
    rw [cn_of_nan h]
    simp [Ieee.Format.sqrt, hd, hd', Ieee.Datum.root]

/-- What the tape gives for a not-a-number is one. -/
theorem nan_of_rung (f : Ieee.Format) (neg : Bool) (r : Nat) (hb : f.binade ≤ f.infRung) (h0 : f.infRung < r) (h1 : r < f.signWeight) : (f.read (f.word neg r)).isNaN = true := by
  have hm : f.word neg r % f.signWeight = r := by
    unfold Ieee.Format.word
    split
    · rw [Nat.add_mod_left, Nat.mod_eq_of_lt h1]
    · exact Nat.mod_eq_of_lt h1
  unfold Ieee.Format.read
  simp only [hm]
  rw [if_neg (by omega), if_neg (by omega), if_neg (by omega)]
  rfl
theorem isNaN_cut (k : FloatKind) (x y t : Nat) : isNaN k ((Question.nanBits k x y).cut t) = true := by
  have h2 : t % 2 = 0 ∨ t % 2 = 1 := by omega
  cases k
  · have hr : (t / 2) % (2 ^ 23 - 1) < 2 ^ 23 - 1 := Nat.mod_lt _ (by decide)
    have e : ∀ neg, (Ieee.single.read (Ieee.single.word neg (0x7f800000 + 1 + (t / 2) % (2 ^ 23 - 1)))).isNaN = true := fun neg =>
      nan_of_rung Ieee.single neg _ (by decide) (by have : Ieee.single.infRung = 0x7f800000 := by decide
                                                    omega) (by have : Ieee.single.signWeight = 0x80000000 := by decide
                                                               omega)
    have w : (Question.nanBits .f32 x y).cut t = Ieee.single.word (t % 2 == 1) (0x7f800000 + 1 + (t / 2) % (2 ^ 23 - 1)) := by
      unfold Ieee.Format.word
      have : Ieee.single.signWeight = 0x80000000 := by decide
      rcases h2 with h | h <;> simp only [Question.cut, h, this] <;> simp <;> omega
    rw [isNaN, w]; exact e _
  · have hr : (t / 2) % (2 ^ 52 - 1) < 2 ^ 52 - 1 := Nat.mod_lt _ (by decide)
    have e : ∀ neg, (Ieee.double.read (Ieee.double.word neg (0x7ff0000000000000 + 1 + (t / 2) % (2 ^ 52 - 1)))).isNaN = true := fun neg =>
      nan_of_rung Ieee.double neg _ (by decide) (by have : Ieee.double.infRung = 0x7ff0000000000000 := by decide
                                                    omega) (by have : Ieee.double.signWeight = 0x8000000000000000 := by decide
                                                               omega)
    have w : (Question.nanBits .f64 x y).cut t = Ieee.double.word (t % 2 == 1) (0x7ff0000000000000 + 1 + (t / 2) % (2 ^ 52 - 1)) := by
      unfold Ieee.Format.word
      have : Ieee.double.signWeight = 0x8000000000000000 := by decide
      rcases h2 with h | h <;> simp only [Question.cut, h, this] <;> simp <;> omega
    rw [isNaN, w]; exact e _
theorem isNaN_cut_conv (k : FloatKind) (x t : Nat) : isNaN k ((Question.nanConv k x).cut t) = true := by
  have := isNaN_cut k 0 0 t
  cases k <;> exact this
theorem isNaN_cut_minMax (k : FloatKind) (b : Bool) (x y t : Nat) : isNaN k ((Question.nanMinMax k b x y).cut t) = true := by
  have := isNaN_cut k 0 0 t
  cases k <;> exact this

/-- min and max of two. -/
def fext (isMax : Bool) (k : FloatKind) (x y : Nat) : Nat :=
  match k.format.order x y with
  | none => nanB k
  | some .lt => if isMax then y else x
  | some .gt => if isMax then x else y
  | some .eq => if isMax then (if (k.decode x).neg then y else x) else (if (k.decode x).neg then x else y)
end Go.V
