import Derived.Test.YtemiffhfijlcaaaVData
set_option linter.unusedSimpArgs false
set_option linter.unusedVariables false
set_option linter.unusedSectionVars false
/-! Strings: what they hold, how they lie in memory, what a step makes of them. -/
namespace Go.V
open Go
namespace Try
/-- What a string holds. -/
structure Str where
  pts : List Vec
  bef : List Vec
  fixed : List Bool
  lens : List Nat
  fall : Vec
  damp : Nat
  passes : Int
abbrev strAV (p b f l : AV) (s : Str) : AV := .agg [p, b, f, l, f32 s.fall.x, f32 s.fall.y, f32 s.fall.z, f32 s.damp, i64 s.passes]
/-- Its lists. -/
structure StrV (h : H) (p b f l : AV) (s : Str) : Prop where
  pts : Vw h cV 3 p s.pts
  bef : Vw h cV 3 b s.bef
  fixed : Vw h cB 1 f s.fixed
  lens : Vw h cF 1 l s.lens
theorem StrV.app {h : H} {p b f l : AV} {s : Str} (k : H) (v : StrV h p b f l s) : StrV (h ++ k) p b f l s := ⟨v.pts.app k, v.bef.app k, v.fixed.app k, v.lens.app k⟩
def Str.small (s : Str) : Prop := s.pts.length < 2 ^ 40 ∧ s.bef.length < 2 ^ 40 ∧ s.fixed.length < 2 ^ 40 ∧ s.lens.length < 2 ^ 40
/-- A string of four blocks of its own, from the n-th on. -/
abbrev grOf (g : Bool) (es : Nat) : Option Nat := if g then some es else none
abbrev oP (n : Nat) (g : Bool) (s : Str) : AV := .sl (some ⟨n, 0⟩) s.pts.length s.pts.length (grOf g 3)
abbrev oB (n : Nat) (g : Bool) (s : Str) : AV := .sl (some ⟨n + 1, 0⟩) s.bef.length s.bef.length (grOf g 3)
abbrev oF (n : Nat) (g : Bool) (s : Str) : AV := .sl (some ⟨n + 2, 0⟩) s.fixed.length s.fixed.length (grOf g 1)
abbrev oL (n : Nat) (g : Bool) (s : Str) : AV := .sl (some ⟨n + 3, 0⟩) s.lens.length s.lens.length (grOf g 1)
abbrev strOut (n : Nat) (g : Bool) (s : Str) : AV := strAV (oP n g s) (oB n g s) (oF n g s) (oL n g s) s
abbrev strCells (n : Nat) (g : Bool) (s : Str) : List AV := [oP n g s, oB n g s, oF n g s, oL n g s, f32 s.fall.x, f32 s.fall.y, f32 s.fall.z, f32 s.damp, i64 s.passes]
abbrev strBlk (s : Str) : List Blk := [⟨fl cV s.pts, .own⟩, ⟨fl cV s.bef, .own⟩, ⟨fl cB s.fixed, .own⟩, ⟨fl cF s.lens, .own⟩]
structure StrAt (h : H) (n : Nat) (s : Str) : Prop where
  pts : h[n]? = some ⟨fl cV s.pts, .own⟩
  bef : h[n + 1]? = some ⟨fl cV s.bef, .own⟩
  fixed : h[n + 2]? = some ⟨fl cB s.fixed, .own⟩
  lens : h[n + 3]? = some ⟨fl cF s.lens, .own⟩
theorem StrAt.v {h : H} {n : Nat} {s : Str} (a : StrAt h n s) (g : Bool) : StrV h (oP n g s) (oB n g s) (oF n g s) (oL n g s) s := ⟨Vw.of_own a.pts, Vw.of_own a.bef, Vw.of_own a.fixed, Vw.of_own a.lens⟩
theorem StrAt.app {h : H} {n : Nat} {s : Str} (k : H) (a : StrAt h n s) : StrAt (h ++ k) n s := ⟨get_old a.pts, get_old a.bef, get_old a.fixed, get_old a.lens⟩
theorem StrAt.new (h : H) (s : Str) (l r : H) {k : Nat} (hk : l.length = k) : StrAt (h ++ (l ++ strBlk s ++ r)) (h.length + k) s := by
  subst hk
  refine ⟨?_, ?_, ?_, ?_⟩ <;> simp only [Nat.add_assoc, get_new] <;> simp [strBlk, List.getElem?_append]

abbrev v0 : Vec := ⟨0, 0, 0⟩
abbrev long (u : Vec) : Nat := root32 (u.inner u)
/-- The points, moved one after another; the places before. -/
def mv1 (s : Str) : Nat → List Vec × List Vec
  | 0 => (s.pts, s.bef)
  | i + 1 => let pb := mv1 s i
    let p := pb.1.getD i v0
    (if s.fixed.getD i false then pb.1 else pb.1.set i ((p.add ((p.sub (pb.2.getD i v0)).scale s.damp)).add s.fall), pb.2.set i p)
theorem mv1_len (s : Str) : ∀ i, (mv1 s i).1.length = s.pts.length ∧ (mv1 s i).2.length = s.bef.length
  | 0 => ⟨rfl, rfl⟩
  | i + 1 => by
    have ih := mv1_len s i
    simp only [mv1]
    split <;> simp [ih]
theorem mv1_t {s : Str} {i : Nat} (h : s.fixed.getD i false = true) : mv1 s (i + 1) = ((mv1 s i).1, (mv1 s i).2.set i ((mv1 s i).1.getD i v0)) := by
  simp only [mv1, h, if_true]
theorem mv1_f {s : Str} {i : Nat} (h : s.fixed.getD i false = false) : mv1 s (i + 1) = ((mv1 s i).1.set i ((((mv1 s i).1.getD i v0).add ((((mv1 s i).1.getD i v0).sub ((mv1 s i).2.getD i v0)).scale s.damp)).add s.fall), (mv1 s i).2.set i ((mv1 s i).1.getD i v0)) := by
  simp only [mv1, h, Bool.false_eq_true, if_false]
/-- Two neighbours are drawn. -/
abbrev pA (P : List Vec) (i : Nat) : Vec := P.getD i v0
abbrev pB (P : List Vec) (i : Nat) : Vec := P.getD (i + 1) v0
abbrev dV (P : List Vec) (i : Nat) : Vec := (pB P i).sub (pA P i)
abbrev qV (s : Str) (P : List Vec) (i : Nat) : Nat := fquo (fsub (long (dV P i)) (s.lens.getD i 0)) (long (dV P i))
abbrev eV (s : Str) (P : List Vec) (i : Nat) : Vec := (dV P i).scale (qV s P i)
abbrev hV (s : Str) (P : List Vec) (i : Nat) : Vec := (eV s P i).scale 1056964608
abbrev P1 (s : Str) (P : List Vec) (i : Nat) : List Vec := P.set (i + 1) ((pB P i).sub (eV s P i))
abbrev P2 (s : Str) (P : List Vec) (i : Nat) : List Vec := P.set i ((pA P i).add (eV s P i))
abbrev P3 (s : Str) (P : List Vec) (i : Nat) : List Vec := P.set i ((pA P i).add (hV s P i))
abbrev P4 (s : Str) (P : List Vec) (i : Nat) : List Vec := (P3 s P i).set (i + 1) ((pB P i).sub (hV s P i))
def pl (s : Str) (P : List Vec) (i : Nat) : List Vec :=
  if fin32 (long (dV P i)) && !eq32 (long (dV P i)) 0 then
    if s.fixed.getD i false then (if s.fixed.getD (i + 1) false then P else P1 s P i)
    else if s.fixed.getD (i + 1) false then P2 s P i
    else P4 s P i
  else P
section
variable {s : Str} {P : List Vec} {i : Nat}
theorem pl_n (h : (!(fin32 (long (dV P i)) && !eq32 (long (dV P i)) 0)) = true) : pl s P i = P := by
  have h' : (fin32 (long (dV P i)) && !eq32 (long (dV P i)) 0) = false := by simpa only [Bool.not_eq_true'] using h
  unfold pl; rw [h']; rfl
theorem pl_ff (h1 : s.fixed.getD i false = true) (h2 : s.fixed.getD (i + 1) false = true) : pl s P i = P := by
  unfold pl; rw [h1, h2]; simp
theorem pl_1 (h : (!(fin32 (long (dV P i)) && !eq32 (long (dV P i)) 0)) = false) (h1 : s.fixed.getD i false = true) (h2 : s.fixed.getD (i + 1) false = false) : pl s P i = P1 s P i := by
  unfold pl; rw [if_pos (by simpa using h), h1, h2]; rfl
theorem pl_2 (h : (!(fin32 (long (dV P i)) && !eq32 (long (dV P i)) 0)) = false) (h1 : s.fixed.getD i false = false) (h2 : s.fixed.getD (i + 1) false = true) : pl s P i = P2 s P i := by
  unfold pl; rw [if_pos (by simpa using h), h1, h2]; rfl
theorem pl_4 (h : (!(fin32 (long (dV P i)) && !eq32 (long (dV P i)) 0)) = false) (h1 : s.fixed.getD i false = false) (h2 : s.fixed.getD (i + 1) false = false) : pl s P i = P4 s P i := by
  unfold pl; rw [if_pos (by simpa using h), h1, h2]; rfl
/-- The other side's way of asking. -/
theorem pl_c (h : (FloatKind.f32.format.order (long (dV P i)) 0 == some Ordering.eq) = false) (k : (!fin32 (long (dV P i))) = false) : (!(fin32 (long (dV P i)) && !eq32 (long (dV P i)) 0)) = false := by
  rw [show eq32 (long (dV P i)) 0 = false from h]; simpa using k
theorem pl_c0 (h : (FloatKind.f32.format.order (long (dV P i)) 0 == some Ordering.eq) = true) : (!(fin32 (long (dV P i)) && !eq32 (long (dV P i)) 0)) = true := by
  rw [show eq32 (long (dV P i)) 0 = true from h]; simp
theorem pl_c1 (k : (!fin32 (long (dV P i))) = true) : (!(fin32 (long (dV P i)) && !eq32 (long (dV P i)) 0)) = true := by
  simp at k; simp [k]
theorem fix_no {j : Nat} {A : Prop} (h1 : s.fixed.getD j false = true) (h2 : s.fixed.getD j false = false) : A := by rw [h1] at h2; cases h2
end
section
variable {s : Str} {P : List Vec} {i n : Nat} {h l : H} {Q : AV → H → Prop}
theorem leafN {X : List Vec} (hq : Q (.tup []) (h.set n ⟨fl cV (pl s P i), .own⟩)) (e : pl s P i = X) : Neat h 1 Q (.tup []) (h.set n ⟨fl cV X, .own⟩ ++ l) := by
  rw [e] at hq
  exact Neat.no rfl ((Chg.refl h).set n (blk := ⟨fl cV X, .own⟩) (fl_lim _ _)) hq
theorem leaf0 (hP : h[n]? = some ⟨fl cV P, .own⟩) (hq : Q (.tup []) (h.set n ⟨fl cV (pl s P i), .own⟩)) (e : pl s P i = P) : Neat h 1 Q (.tup []) (h ++ l) := by
  rw [e, list_set_self hP] at hq
  exact Neat.no rfl (Chg.refl h) hq
end
theorem pl_len (s : Str) (P : List Vec) (i : Nat) : (pl s P i).length = P.length := by
  unfold pl
  split
  · split
    · split <;> simp
    · split <;> simp
  · rfl
def pass (s : Str) : Nat → List Vec → List Vec
  | 0, P => P
  | i + 1, P => pl s (pass s i P) i
theorem pass_len (s : Str) (P : List Vec) : ∀ i, (pass s i P).length = P.length
  | 0 => rfl
  | i + 1 => by simp only [pass, pl_len, pass_len s P i]
def passN (s : Str) : Nat → List Vec → List Vec
  | 0, P => P
  | k + 1, P => pass s s.lens.length (passN s k P)
theorem passN_len (s : Str) (P : List Vec) : ∀ i, (passN s i P).length = P.length
  | 0 => rfl
  | i + 1 => by simp only [passN, pass_len, passN_len s P i]
def Str.step (s : Str) : Str := { s with pts := passN s s.passes.toNat (mv1 s s.pts.length).1, bef := (mv1 s s.pts.length).2 }
def stepN : Nat → Str → Str
  | 0, s => s
  | k + 1, s => (stepN k s).step
/-- Is it one? -/
def Str.ok (s : Str) : Bool := decide (2 ≤ (s.pts.length : Int)) && decide ((s.pts.length : Int) ≤ 16) && ((s.bef.length : Int) == s.pts.length) && ((s.fixed.length : Int) == s.pts.length) && ((s.lens.length : Int) == (s.pts.length : Int) - 1) && decide (0 ≤ s.passes) && decide (s.passes ≤ 16)
structure Str.Ok (s : Str) : Prop where
  a : 2 ≤ s.pts.length
  b : s.pts.length ≤ 16
  c : s.bef.length = s.pts.length
  d : s.fixed.length = s.pts.length
  e : s.lens.length + 1 = s.pts.length
  f : 0 ≤ s.passes
  g : s.passes ≤ 16
theorem Str.ok_iff (s : Str) : s.ok = true ↔ s.Ok := by
  unfold Str.ok
  simp only [Bool.and_eq_true, decide_eq_true_eq, beq_iff_eq]
  constructor
  · rintro ⟨⟨⟨⟨⟨⟨a, b⟩, c⟩, d⟩, e⟩, f⟩, g⟩
    exact ⟨by omega, by omega, by omega, by omega, by omega, f, g⟩
  · rintro ⟨a, b, c, d, e, f, g⟩
    exact ⟨⟨⟨⟨⟨⟨by omega, by omega⟩, by omega⟩, by omega⟩, by omega⟩, f⟩, g⟩
theorem Str.Ok.step {s : Str} (k : s.Ok) : s.step.Ok := by
  obtain ⟨a, b, c, d, e, f, g⟩ := k
  have h1 : s.step.pts.length = s.pts.length := by show (passN s _ _).length = _; rw [passN_len, (mv1_len s _).1]
  have h2 : s.step.bef.length = s.bef.length := (mv1_len s _).2
  exact ⟨by omega, by omega, by omega, by rw [h1]; exact d, by rw [h1]; exact e, f, g⟩
theorem Str.Ok.stepN {s : Str} (k : s.Ok) : ∀ n, (stepN n s).Ok
  | 0 => k
  | n + 1 => (Str.Ok.stepN k n).step
theorem step_pts_len (s : Str) : s.step.pts.length = s.pts.length := by show (passN s _ _).length = _; rw [passN_len, (mv1_len s _).1]
theorem step_bef_len (s : Str) : s.step.bef.length = s.bef.length := (mv1_len s _).2
theorem strCells_step (n : Nat) (g : Bool) (s : Str) : strCells n g s.step = strCells n g s := by
  unfold strCells oP oB oF oL
  rw [step_pts_len, step_bef_len]; rfl
theorem strCells_stepN (n : Nat) (g : Bool) (s : Str) : ∀ k, strCells n g (stepN k s) = strCells n g s
  | 0 => rfl
  | k + 1 => by rw [show stepN (k + 1) s = (stepN k s).step from rfl, strCells_step, strCells_stepN n g s k]
theorem stepN_fixed (s : Str) : ∀ k, (stepN k s).fixed = s.fixed
  | 0 => rfl
  | k + 1 => stepN_fixed s k
theorem stepN_lens (s : Str) : ∀ k, (stepN k s).lens = s.lens
  | 0 => rfl
  | k + 1 => stepN_lens s k
/-- The value of no string. -/
abbrev zeroCells : List AV := [.sl none 0 0 none, .sl none 0 0 none, .sl none 0 0 none, .sl none 0 0 none, f32 0, f32 0, f32 0, f32 0, i64 0]
/-- What the laws lay into a string, from k on. -/
abbrev k1 (s : Str) (k : Int) : Int := k + ((3 * s.pts.length : Nat) : Int)
abbrev k2 (s : Str) (k : Int) : Int := k1 s k + ((3 * s.bef.length : Nat) : Int)
abbrev k3 (s : Str) (k : Int) : Int := k2 s k + ((1 * s.fixed.length : Nat) : Int)
abbrev k4 (s : Str) (k : Int) : Int := k3 s k + ((1 * s.lens.length : Nat) : Int)
abbrev b1 (s : Str) (k : Int) : Blk := ⟨mc (kF k) (3 * s.pts.length), .own⟩
abbrev b2 (s : Str) (k : Int) : Blk := ⟨mc (kF (k1 s k)) (3 * s.bef.length), .own⟩
abbrev b3 (s : Str) (k : Int) : Blk := ⟨mc (kB (k2 s k)) (1 * s.fixed.length), .own⟩
abbrev b4 (s : Str) (k : Int) : Blk := ⟨mc (kF (k3 s k)) (1 * s.lens.length), .own⟩
abbrev marked (h : H) (n : Nat) (s : Str) (k : Int) : H := (((h.set n (b1 s k)).set (n + 1) (b2 s k)).set (n + 2) (b3 s k)).set (n + 3) (b4 s k)
theorem marked_new (h l : H) (p : Nat) (s : Str) (k : Int) : marked (h ++ l) (h.length + p) s k = h ++ (((l.set p (b1 s k)).set (p + 1) (b2 s k)).set (p + 2) (b3 s k)).set (p + 3) (b4 s k) := by
  unfold marked
  simp only [Nat.add_assoc, set_new]
structure StrM (h : H) (n : Nat) (s : Str) (k : Int) : Prop where
  pts : h[n]? = some (b1 s k)
  bef : h[n + 1]? = some (b2 s k)
  fixed : h[n + 2]? = some (b3 s k)
  lens : h[n + 3]? = some (b4 s k)
abbrev str0 : Str := ⟨[], [], [], [], ⟨0, 0, 0⟩, 0, 0⟩
theorem StrV.zero (h : H) : StrV h (.sl none 0 0 none) (.sl none 0 0 none) (.sl none 0 0 none) (.sl none 0 0 none) str0 := ⟨Vw.nil, Vw.nil, Vw.nil, Vw.nil⟩
theorem S2_new (h l : H) (k : Nat) (a b : Blk) : S2 (h ++ l) (h.length + k) a b = h ++ (l.set k a).set (k + 1) b := by
  unfold S2
  rw [set_new, Nat.add_assoc, set_new]
end Try
end Go.V
