import Derived.Test.YtemiffhfijlcaaaVOpR
set_option linter.unusedSimpArgs false
set_option linter.unusedVariables false
set_option linter.unusedSectionVars false
/-! The program's kinds of data, as cells. -/
namespace Go.V
open Go
abbrev f32 (x : Nat) : AV := .f .f32 x
abbrev f64 (x : Nat) : AV := .f .f64 x
abbrev i64 (x : Int) : AV := .i .i64 x
/-- A vector. -/
structure Vec where
  x : Nat
  y : Nat
  z : Nat
def cV (v : Vec) : List AV := [f32 v.x, f32 v.y, f32 v.z]
def cF (x : Nat) : List AV := [f32 x]
def cB (x : Bool) : List AV := [.b x]
def cI (x : Int) : List AV := [i64 x]
def cS (x : ByteArray) : List AV := [.s x]
instance : Cells cV 3 := ⟨fun _ => rfl, by decide, fun _ => rfl, fun _ _ => rfl⟩
instance : Cells cF 1 := ⟨fun _ => rfl, by decide, fun _ => rfl, fun _ _ => rfl⟩
instance : Cells cB 1 := ⟨fun _ => rfl, by decide, fun _ => rfl, fun _ _ => rfl⟩
instance : Cells cI 1 := ⟨fun _ => rfl, by decide, fun _ => rfl, fun _ _ => rfl⟩
instance : Cells cS 1 := ⟨fun _ => rfl, by decide, fun _ => rfl, fun _ _ => rfl⟩
/-- Its value in memory. -/
abbrev Vec.av (v : Vec) : AV := .agg (cV v)
abbrev fadd (x y : Nat) : Nat := fop .add .f32 x y
abbrev fsub (x y : Nat) : Nat := fop .sub .f32 x y
abbrev fmul (x y : Nat) : Nat := fop .mul .f32 x y
abbrev fquo (x y : Nat) : Nat := fop .quo .f32 x y
def Vec.add (u v : Vec) : Vec := ⟨fadd u.x v.x, fadd u.y v.y, fadd u.z v.z⟩
def Vec.sub (u v : Vec) : Vec := ⟨fsub u.x v.x, fsub u.y v.y, fsub u.z v.z⟩
def Vec.scale (u : Vec) (k : Nat) : Vec := ⟨fmul u.x k, fmul u.y k, fmul u.z k⟩
def Vec.inner (u v : Vec) : Nat := fadd (fadd (fmul u.x v.x) (fmul u.y v.y)) (fmul u.z v.z)
def fin32 (x : Nat) : Bool := FloatKind.f32.format.order (fsub x x) 0 == some .eq
def eq32 (x y : Nat) : Bool := FloatKind.f32.format.order x y == some .eq
/-- A turn. -/
structure Turn where
  w : Nat
  x : Nat
  y : Nat
  z : Nat
def cT (t : Turn) : List AV := [f32 t.w, f32 t.x, f32 t.y, f32 t.z]
instance : Cells cT 4 := ⟨fun _ => rfl, by decide, fun _ => rfl, fun _ _ => rfl⟩
abbrev Turn.av (t : Turn) : AV := .agg (cT t)
/-- A bone. -/
structure Bone where
  par : Int
  off : Vec
def cBone (b : Bone) : List AV := [i64 b.par, f32 b.off.x, f32 b.off.y, f32 b.off.z]
instance : Cells cBone 4 := ⟨fun _ => rfl, by decide, fun _ => rfl, fun _ _ => rfl⟩
abbrev Bone.av (b : Bone) : AV := .agg (cBone b)
/-- A key; a root's key. -/
structure Key where
  at' : Int
  turn : Turn
def cKey (k : Key) : List AV := [i64 k.at', f32 k.turn.w, f32 k.turn.x, f32 k.turn.y, f32 k.turn.z]
instance : Cells cKey 5 := ⟨fun _ => rfl, by decide, fun _ => rfl, fun _ _ => rfl⟩
abbrev Key.av (k : Key) : AV := .agg (cKey k)
structure RKey where
  at' : Int
  pl : Vec
def cRKey (k : RKey) : List AV := [i64 k.at', f32 k.pl.x, f32 k.pl.y, f32 k.pl.z]
instance : Cells cRKey 4 := ⟨fun _ => rfl, by decide, fun _ => rfl, fun _ _ => rfl⟩
abbrev RKey.av (k : RKey) : AV := .agg (cRKey k)
/-- Numbers in their order, from k on, laid into the elements' cells. -/
abbrev mf (k : Int) : Nat := fofInt .f32 k
/-- The first cells of a row of them. -/
def mc (f : Nat → AV) (m : Nat) : List AV := (List.range m).map f
theorem mc_length (f : Nat → AV) (m : Nat) : (mc f m).length = m := by simp [mc]
theorem mc_get {f : Nat → AV} {m o j : Nat} (ho : o = j) (hj : j < m) : (mc f m)[o]? = some (f j) := by
  subst ho; simp [mc, List.getElem?_range hj]
theorem mc_len {f : Nat → AV} {old : List AV} {m : Nat} (hm : m ≤ old.length) : (mc f m ++ old.drop m).length = old.length := by simp [mc]; omega
theorem splice_mc {f : Nat → AV} {old : List AV} {m o : Nat} {v : AV} (hm : m < old.length) (ho : o = m) (hv : v = f m) : splice (mc f m ++ old.drop m) o [v] = mc f (m + 1) ++ old.drop (m + 1) := by
  subst ho hv
  unfold splice
  rw [List.take_append_of_le_length (by rw [mc_length]; exact Nat.le_refl _), List.take_of_length_le (by rw [mc_length]; exact Nat.le_refl _)]
  rw [List.drop_append, mc_length, List.drop_eq_nil_of_le (by rw [mc_length]; simp), List.drop_drop]
  simp only [mc, List.range_succ, List.map_append, List.map_cons, List.map_nil, List.length_cons, List.length_nil, List.nil_append, List.append_assoc]
  congr 3
  omega
theorem mc_one {f : Nat → AV} (h : ∀ j, (f j).one = true) (m : Nat) : (mc f m).all AV.one = true := by simp [mc, h]
theorem mc_lim {f : Nat → AV} (n : Nat) (h : ∀ j, (f j).lim n = true) : ∀ m, lims n (mc f m) = true
  | 0 => rfl
  | m + 1 => by
    simp only [mc, List.range_succ, List.map_append, lims_append, Bool.and_eq_true]
    exact ⟨mc_lim n h m, by simp [lims, h]⟩
/-- What the laws lay into lists of each kind, from k on. -/
def kF (k : Int) (j : Nat) : AV := f32 (mf (k + j))
def kI (k : Int) (j : Nat) : AV := i64 (k + j)
def kB (k : Int) (j : Nat) : AV := .b ((k + j).tmod 3 == 0)
def kBone (k : Int) (j : Nat) : AV := if j % 4 = 0 then i64 (k + j) else f32 (mf (k + j))
def kKey (k : Int) (j : Nat) : AV := if j % 5 = 0 then i64 (k + j) else f32 (mf (k + j))
theorem kF_lim (k : Int) (n j : Nat) : (kF k j).lim n = true := rfl
theorem kI_lim (k : Int) (n j : Nat) : (kI k j).lim n = true := rfl
theorem kB_lim (k : Int) (n j : Nat) : (kB k j).lim n = true := rfl
theorem kBone_lim (k : Int) (n j : Nat) : (kBone k j).lim n = true := by unfold kBone; split <;> rfl
theorem kKey_lim (k : Int) (n j : Nat) : (kKey k j).lim n = true := by unfold kKey; split <;> rfl
theorem order_self {k : FloatKind} {x : Nat} (h : isNaN k x = false) : k.format.order x x = some .eq := by
  unfold isNaN at h
  unfold Ieee.Format.order
  cases hd : k.format.read x with
  | nan s t => rw [hd] at h; simp [Ieee.Datum.isNaN] at h
  | infinity s => cases s <;> rfl
  | number s m e => simp [Ieee.Datum.order, compare, compareOfLessAndEq]
theorem eq_self64 (x : Nat) : (FloatKind.f64.format.order x x == some Ordering.eq) = !isNaN .f64 x := by
  cases h : isNaN .f64 x with
  | false => rw [order_self h]; rfl
  | true =>
    obtain ⟨s, t, e⟩ := read_nan h
    unfold Ieee.Format.order
    rw [e]; rfl
theorem mf_eq {a b : Int} (h : a = b) : FloatKind.f32.format.order (mf a) (mf b) = some .eq := by subst h; exact order_self (isNaN_ofInt _ _)
/-- The elements' cells written out. -/
theorem KC : (∀ v, cV v = [f32 v.x, f32 v.y, f32 v.z]) ∧ (∀ x, cF x = [f32 x]) ∧ (∀ x, cB x = [.b x]) ∧ (∀ x, cI x = [i64 x]) ∧ (∀ x, cS x = [.s x]) ∧ (∀ t, cT t = [f32 t.w, f32 t.x, f32 t.y, f32 t.z]) ∧ (∀ b, cBone b = [i64 b.par, f32 b.off.x, f32 b.off.y, f32 b.off.z]) ∧
    (∀ k, cKey k = [i64 k.at', f32 k.turn.w, f32 k.turn.x, f32 k.turn.y, f32 k.turn.z]) ∧ (∀ k, cRKey k = [i64 k.at', f32 k.pl.x, f32 k.pl.y, f32 k.pl.z]) :=
  ⟨fun _ => rfl, fun _ => rfl, fun _ => rfl, fun _ => rfl, fun _ => rfl, fun _ => rfl, fun _ => rfl, fun _ => rfl, fun _ => rfl⟩
end Go.V
