import Derived.Test.YtemiffhfijlcaaaVRules2
import Derived.IntWalk
set_option linter.unusedSimpArgs false
set_option linter.unusedVariables false
set_option linter.unusedSectionVars false
/-! Lists as cells; slices told by their elements; what a neat function leaves behind. -/
namespace Go.V
open Go

/-- Every element takes es cells, without places. -/
class Cells {α : Type} (c : α → List AV) (es : outParam Nat) : Prop where
  len : ∀ x, (c x).length = es
  pos : 0 < es
  one : ∀ x, (c x).all AV.one = true
  lim : ∀ x n, lims n (c x) = true
/-- A list's cells. -/
def fl {α : Type} (c : α → List AV) (xs : List α) : List AV := xs.flatMap c

theorem lims_append {n : Nat} : ∀ {a b : List AV}, lims n (a ++ b) = (lims n a && lims n b)
  | [], b => by simp [lims]
  | v :: a, b => by simp only [List.cons_append, lims, lims_append (a := a), Bool.and_assoc]

section
variable {α : Type} {c : α → List AV} {es : Nat} [hc : Cells c es]
omit hc in
@[simp] theorem fl_nil : fl c [] = [] := rfl
omit hc in
@[simp] theorem fl_cons (x : α) (xs : List α) : fl c (x :: xs) = c x ++ fl c xs := by simp [fl]
omit hc in
theorem fl_append (xs ys : List α) : fl c (xs ++ ys) = fl c xs ++ fl c ys := by simp [fl]
theorem fl_length : ∀ (xs : List α), (fl c xs).length = xs.length * es
  | [] => by simp
  | x :: xs => by simp only [fl_cons, List.length_append, List.length_cons, fl_length xs, hc.len, Nat.succ_mul]; omega
include hc in
theorem fl_one : ∀ (xs : List α), (fl c xs).all AV.one = true
  | [] => rfl
  | x :: xs => by simp only [fl_cons, List.all_append, Bool.and_eq_true]; exact ⟨hc.one x, fl_one xs⟩
include hc in
theorem fl_lim (n : Nat) : ∀ (xs : List α), lims n (fl c xs) = true
  | [] => rfl
  | x :: xs => by simp only [fl_cons, lims_append, Bool.and_eq_true]; exact ⟨hc.lim x n, fl_lim n xs⟩
theorem fl_drop (xs : List α) (i : Nat) : (fl c xs).drop (i * es) = fl c (xs.drop i) := by
  induction xs generalizing i with
  | nil => simp
  | cons x xs ih =>
    cases i with
    | zero => simp
    | succ i =>
      simp only [fl_cons, List.drop_succ_cons]
      rw [List.drop_append, hc.len, List.drop_eq_nil_of_le (by rw [hc.len, Nat.succ_mul]; omega), Nat.succ_mul, Nat.add_sub_cancel, ih]; rfl
theorem fl_take (xs : List α) (i : Nat) : (fl c xs).take (i * es) = fl c (xs.take i) := by
  induction xs generalizing i with
  | nil => simp
  | cons x xs ih =>
    cases i with
    | zero => simp
    | succ i =>
      simp only [fl_cons, List.take_succ_cons]
      rw [List.take_append, hc.len, List.take_of_length_le (by rw [hc.len, Nat.succ_mul]; omega), Nat.succ_mul, Nat.add_sub_cancel, ih]
theorem fl_at {xs : List α} {i : Nat} (hi : i < xs.length) : ((fl c xs).drop (i * es)).take es = c xs[i] := by
  rw [fl_drop, List.drop_eq_getElem_cons hi, fl_cons, List.take_append, hc.len, Nat.sub_self, List.take_of_length_le (by rw [hc.len]; omega)]; simp
theorem fl_splice {xs : List α} {i : Nat} (hi : i < xs.length) (y : α) : splice (fl c xs) (i * es) (c y) = fl c (xs.set i y) := by
  unfold splice
  rw [hc.len, fl_take, show i * es + es = (i + 1) * es by rw [Nat.succ_mul], fl_drop]
  rw [List.set_eq_take_append_cons_drop, if_pos hi]
  simp [fl]
/-- One element's cells, one cell of an element. -/
theorem fl_splice1 {xs : List α} {i j : Nat} (hi : i < xs.length) {v : AV} {y : α} (hy : splice (c xs[i]) j [v] = c y) (hj : j < es) : splice (fl c xs) (i * es + j) [v] = fl c (xs.set i y) := by
  rw [← fl_splice hi y, ← hy]
  have h1 : (c xs[i]).length = es := hc.len _
  have h2 := fl_at (c := c) hi
  have h3 : (splice (c xs[i]) j [v]).length = es := by simp [splice, h1]; omega
  unfold splice at h3 ⊢
  simp only [List.length_cons, List.length_nil] at h3 ⊢
  rw [h3]
  have hl : i * es + es ≤ (fl c xs).length := by
    rw [fl_length, ← Nat.succ_mul]; exact Nat.mul_le_mul_right _ hi
  rw [← h2]
  apply List.ext_getElem?
  intro k
  simp only [List.getElem?_append, List.length_append, List.length_take, List.length_drop, List.length_cons, List.length_nil, List.getElem?_take, List.getElem?_drop]
  by_cases k1 : k < i * es
  · rw [if_pos (by omega), if_pos (by omega), if_pos (by omega), if_pos (by omega), if_pos (by omega), if_pos (by omega)]
  · by_cases k2 : k < i * es + j
    · rw [if_pos (by omega), if_pos (by omega), if_pos (by omega), if_pos (by omega), if_neg (by omega), if_pos (by omega), if_pos (by omega), if_pos (by omega), if_pos (by omega)]
      congr 1; omega
    · by_cases k3 : k = i * es + j
      · subst k3
        rw [if_pos (by omega), if_neg (by omega), if_pos (by omega), if_neg (by omega), if_pos (by omega), if_neg (by omega)]
        congr 1; omega
      · by_cases k4 : k < i * es + es
        · rw [if_neg (by omega), if_pos (by omega), if_neg (by omega), if_neg (by omega), if_pos (by omega)]
          congr 1; omega
        · rw [if_neg (by omega), if_neg (by omega)]
          congr 1; omega
include hc in
theorem zeros_fl (n : Nat) (z : α) : zeros n (c z) = fl c (List.replicate n z) := by
  apply List.ext_getElem?
  intro k
  unfold zeros
  rw [hc.len]
  have hp := hc.pos
  by_cases hk : k < n * es
  · rw [List.getElem?_map, List.getElem?_range hk]
    have hi : k / es < n := (Nat.div_lt_iff_lt_mul hp).2 hk
    have h1 := fl_at (c := c) (xs := List.replicate n z) (i := k / es) (by simpa using hi)
    have h2 : (fl c (List.replicate n z))[k]? = ((List.drop (k / es * es) (fl c (List.replicate n z))).take es)[k % es]? := by
      rw [List.getElem?_take_of_lt (Nat.mod_lt _ hp), List.getElem?_drop]
      congr 1
      rw [Nat.mul_comm]; exact (Nat.div_add_mod k es).symm
    rw [h2, h1]
    simp only [List.getElem_replicate, Option.map_some]
    have : k % es < (c z).length := by rw [hc.len]; exact Nat.mod_lt _ hp
    rw [List.getD_eq_getElem?_getD, List.getElem?_eq_getElem this]; rfl
  · rw [List.getElem?_eq_none (by simp; omega), List.getElem?_eq_none (by rw [fl_length]; simp; omega)]
end

/-- One more element is laid. -/
theorem set_step {α : Type} {xs : List α} {i : Nat} {z : α} (hi : i < xs.length) : (xs.take i ++ List.replicate (xs.length - i) z).set i xs[i] = xs.take (i + 1) ++ List.replicate (xs.length - (i + 1)) z := by
  rw [List.set_append_right _ _ (by simp; omega), List.take_succ_eq_append_getElem hi, List.append_assoc]
  congr 1
  have : xs.length - i = (xs.length - (i + 1)) + 1 := by omega
  rw [this, List.replicate_succ]
  simp [List.length_take, Nat.min_eq_left (Nat.le_of_lt hi)]
/-- A slice of these elements. -/
structure Vw {α : Type} (h : H) (c : α → List AV) (es : Nat) (v : AV) (xs : List α) : Prop where
  is : ∃ r cap gr, v = .sl r xs.length cap gr ∧ (∀ i (hi : i < xs.length), ∃ q, r = some q ∧ rdn h (q.add (i * es)) es = some (c xs[i])) ∧ srcCells h es v = some (xs.length, fl c xs)
section
variable {α : Type} {c : α → List AV} {es : Nat}
theorem Vw.app {h : H} {v : AV} {xs : List α} (l : H) (hv : Vw h c es v xs) : Vw (h ++ l) c es v xs := by
  obtain ⟨r, cap, gr, rfl, hx, hs⟩ := hv
  refine ⟨r, cap, gr, rfl, fun i hi => let ⟨q, e, hq⟩ := hx i hi; ⟨q, e, rdn_app l hq⟩, ?_⟩
  cases r with
  | none =>
    match hn : xs.length, cap, hs with
    | 0, 0, hs => simpa [srcCells, hn] using hs
    | 0, _ + 1, hs => simp [srcCells] at hs
    | _ + 1, _, hs => simp [srcCells] at hs
  | some q =>
    simp only [srcCells, Option.map_eq_some_iff] at hs ⊢
    obtain ⟨a, ha, hb⟩ := hs
    exact ⟨a, rdn_app l ha, hb⟩
theorem rdn_block {h : H} {b o n : Nat} {cells : List AV} {md : Md} (hb : h[b]? = some ⟨cells, md⟩) (hd : md ≠ .dead) (hn : o + n ≤ cells.length) : rdn h ⟨b, o⟩ n = some ((cells.drop o).take n) := by
  unfold rdn
  simp only [hb]
  rw [if_neg hd, if_pos hn]
/-- A slice of a block's first elements. -/
theorem Vw.of_block [hc : Cells c es] {h : H} {b : Nat} {xs : List α} {sp : List AV} {md : Md} {cap : Nat} {gr : Option Nat} (hb : h[b]? = some ⟨fl c xs ++ sp, md⟩) (hd : md ≠ .dead) : Vw h c es (.sl (some ⟨b, 0⟩) xs.length cap gr) xs := by
  refine ⟨_, cap, gr, rfl, fun i hi => ⟨_, rfl, ?_⟩, ?_⟩
  · have hl : i * es + es ≤ (fl c xs).length := by
      rw [fl_length, ← Nat.succ_mul]; exact Nat.mul_le_mul_right _ hi
    rw [show (⟨b, 0⟩ : Ref).add (i * es) = ⟨b, i * es⟩ by simp [Ref.add]]
    rw [rdn_block hb hd (by simp; omega)]
    rw [List.drop_append_of_le_length (by omega), List.take_append_of_le_length (by simp; omega), fl_at hi]
  · simp only [srcCells]
    rw [rdn_block hb hd (by simp [fl_length])]
    simp [← fl_length (c := c)]
theorem Vw.of_own [hc : Cells c es] {h : H} {b : Nat} {xs : List α} {cap : Nat} {gr : Option Nat} (hb : h[b]? = some ⟨fl c xs, .own⟩) : Vw h c es (.sl (some ⟨b, 0⟩) xs.length cap gr) xs :=
  Vw.of_block (sp := []) (by simpa using hb) (by decide)
theorem Vw.nil {h : H} {gr : Option Nat} : Vw h c es (.sl none 0 0 gr) ([] : List α) := ⟨none, 0, gr, rfl, fun i hi => by simp at hi, rfl⟩
theorem Vw.src {h : H} {v : AV} {xs : List α} (hv : Vw h c es v xs) : srcCells h es v = some (xs.length, fl c xs) := by
  obtain ⟨r, cap, gr, rfl, hx, hs⟩ := hv; exact hs
theorem rd_of_rdn {h : H} {r : Ref} {x : AV} (hr : rdn h r 1 = some [x]) : rd h r = some x := by
  unfold rdn at hr
  unfold rd
  split at hr
  · rename_i blk hb
    split at hr
    · cases hr
    · rename_i hd
      split at hr
      · rename_i hl
        simp only [Option.some.injEq] at hr
        rw [if_neg hd]
        have := congrArg (·[0]?) hr
        simpa [List.getElem?_take, List.getElem?_drop] using this
      · cases hr
  · cases hr
end

/-- Another block is turned: the slice is as it was. -/
theorem rdn_set {h : H} {b : Nat} {blk : Blk} {r : Ref} {n : Nat} (hne : r.b ≠ b) : rdn (h.set b blk) r n = rdn h r n := by
  unfold rdn; rw [List.getElem?_set_ne (fun e => hne e.symm)]
theorem rd_set {h : H} {b : Nat} {blk : Blk} {r : Ref} (hne : r.b ≠ b) : rd (h.set b blk) r = rd h r := by
  unfold rd; rw [List.getElem?_set_ne (fun e => hne e.symm)]
def Away (v : AV) (b : Nat) : Prop := match v with
  | .sl (some r) _ _ _ => r.b ≠ b
  | _ => True
theorem Vw.set {α : Type} {c : α → List AV} {es : Nat} {h : H} {v : AV} {xs : List α} {b : Nat} (blk : Blk) (hv : Vw h c es v xs) (ha : Away v b) : Vw (h.set b blk) c es v xs := by
  obtain ⟨r, cap, gr, rfl, hx, hs⟩ := hv
  cases r with
  | none =>
    refine ⟨none, cap, gr, rfl, fun i hi => ?_, ?_⟩
    · obtain ⟨q, e, _⟩ := hx i hi; cases e
    · match hn : xs.length, cap, hs with
      | 0, 0, hs => simpa [srcCells, hn] using hs
      | 0, _ + 1, hs => simp [srcCells] at hs
      | _ + 1, _, hs => simp [srcCells] at hs
  | some q =>
    refine ⟨some q, cap, gr, rfl, fun i hi => ?_, ?_⟩
    · obtain ⟨q', e, hq⟩ := hx i hi
      cases e
      exact ⟨q, rfl, by rw [rdn_set (by exact ha)]; exact hq⟩
    · simp only [srcCells] at hs ⊢
      rw [rdn_set (by exact ha)]; exact hs

/-! Heaps: an old one and new blocks. -/
theorem list_set_self {h : H} {b : Nat} {x : Blk} (hb : h[b]? = some x) : h.set b x = h := by
  obtain ⟨hl, e⟩ := List.getElem?_eq_some_iff.1 hb
  rw [← e, List.set_getElem_self]
theorem set_new (h l : H) (k : Nat) (x : Blk) : (h ++ l).set (h.length + k) x = h ++ l.set k x := by
  rw [List.set_append_right _ _ (by omega)]; simp
theorem get_new (h l : H) (k : Nat) : (h ++ l)[h.length + k]? = l[k]? := by
  rw [List.getElem?_append_right (by omega)]; simp
theorem get_old {h l : H} {b : Nat} {x : Blk} (hb : h[b]? = some x) : (h ++ l)[b]? = some x := by
  rw [List.getElem?_append_left (at_lt hb)]; exact hb
theorem set_old {h l : H} {b : Nat} {x : Blk} (hb : b < h.length) : (h ++ l).set b x = h.set b x ++ l := List.set_append_left _ _ hb

/-- Two neighbouring blocks are turned. -/
def S2 (h : H) (n : Nat) (a b : Blk) : H := (h.set n a).set (n + 1) b
theorem S2_len (h : H) (n : Nat) (a b : Blk) : (S2 h n a b).length = h.length := by simp [S2]
theorem S2_get0 {h : H} {n : Nat} {a b : Blk} (hl : n < h.length) : (S2 h n a b)[n]? = some a := by
  unfold S2; rw [List.getElem?_set_ne (by omega), List.getElem?_set_self hl]
theorem S2_get1 {h : H} {n : Nat} {a b : Blk} (hl : n + 1 < h.length) : (S2 h n a b)[n + 1]? = some b := by
  unfold S2; rw [List.getElem?_set_self (by simpa using hl)]
theorem S2_ne {h : H} {n k : Nat} {a b : Blk} (h0 : k ≠ n) (h1 : k ≠ n + 1) : (S2 h n a b)[k]? = h[k]? := by
  unfold S2; rw [List.getElem?_set_ne (by omega), List.getElem?_set_ne (by omega)]
theorem S2_set0 (h : H) (n : Nat) (a b x : Blk) : (S2 h n a b).set n x = S2 h n x b := by
  unfold S2; rw [List.set_comm _ _ (by omega), List.set_set]
theorem S2_set1 (h : H) (n : Nat) (a b x : Blk) : (S2 h n a b).set (n + 1) x = S2 h n a x := by
  unfold S2; rw [List.set_set]
theorem S2_self {h : H} {n : Nat} {a b : Blk} (h0 : h[n]? = some a) (h1 : h[n + 1]? = some b) : S2 h n a b = h := by
  unfold S2; rw [list_set_self h0, list_set_self h1]
theorem S2_app {h l : H} {n : Nat} {a b : Blk} (hn : n + 1 < h.length) : S2 (h ++ l) n a b = S2 h n a b ++ l := by
  unfold S2
  rw [set_old (by omega), set_old (by simpa using hn)]
/-- An element's cells. -/
theorem rdE {α : Type} {c : α → List AV} {es : Nat} [hc : Cells c es] {h : H} {b i : Nat} {xs : List α} {md : Md} (d : α) (hb : h[b]? = some ⟨fl c xs, md⟩) (hd : md ≠ .dead) (hi : i < xs.length) : rdn h ((⟨b, 0⟩ : Ref).add (i * es)) es = some (c (xs.getD i d)) := by
  have hl : i * es + es ≤ (fl c xs).length := by
    rw [fl_length, ← Nat.succ_mul]; exact Nat.mul_le_mul_right _ hi
  rw [show (⟨b, 0⟩ : Ref).add (i * es) = ⟨b, i * es⟩ by simp [Ref.add], rdn_block hb hd hl, fl_at hi]
  rw [List.getD_eq_getElem?_getD, List.getElem?_eq_getElem hi]; rfl
/-! What a neat function leaves. -/
/-- Old blocks that were turned hold no new places. -/
structure Chg (h h0 : H) : Prop where
  len : h0.length = h.length
  is : ∀ b, b < h.length → h0[b]? = h[b]? ∨ ∃ blk, h0[b]? = some blk ∧ lims h.length blk.cells = true
theorem Chg.refl (h : H) : Chg h h := ⟨rfl, fun _ _ => .inl rfl⟩
theorem Chg.set {h h0 : H} (k : Chg h h0) (b : Nat) {blk : Blk} (hl : lims h.length blk.cells = true) : Chg h (h0.set b blk) := by
  refine ⟨by simpa using k.len, fun b' hb' => ?_⟩
  by_cases e : b = b'
  · subst e
    right
    exact ⟨blk, by rw [List.getElem?_set_self (by have := k.len; omega)], hl⟩
  · rw [List.getElem?_set_ne e]
    exact k.is b' hb'

theorem beq_add1 (n k : Nat) : (n == n + k) = (0 == k) := by rw [Bool.eq_iff_iff]; simp; omega
theorem beq_add2 (n k : Nat) : (n + k == n) = (k == 0) := by rw [Bool.eq_iff_iff]; simp
theorem beq_add3 (n a b : Nat) : (n + a == n + b) = (a == b) := by rw [Bool.eq_iff_iff]; simp
theorem if_new {α : Type} (n k : Nat) (a b : α) : (if n + k < n then a else b) = b := if_neg (by omega)
theorem reno_new (n k : Nat) (idx : List Nat) : reno n idx (n + k) = n + idx.idxOf (n + k) := by unfold reno; rw [if_neg (by omega)]
theorem reno_new0 (n : Nat) (idx : List Nat) : reno n idx n = n + idx.idxOf n := by unfold reno; rw [if_neg (by omega)]
mutual
theorem ren_of_refs {n : Nat} {idx : List Nat} : ∀ {v : AV}, v.refs n = [] → v.ren n idx = v
  | .b _, _ | .i _ _, _ | .f _ _, _ | .s _, _ | .p none, _ | .sl none _ _ _, _ | .nilF, _ | .nilI, _ => rfl
  | .p (some r), h => by
    have : r.b < n := by
      by_cases hb : r.b < n
      · exact hb
      · simp [AV.refs, hb] at h
    simp [AV.ren, reno, this]
  | .sl (some r) _ _ _, h => by
    have : r.b < n := by
      by_cases hb : r.b < n
      · exact hb
      · simp [AV.refs, hb] at h
    simp [AV.ren, reno, this]
  | .fn _ cs, h => by simp only [AV.refs] at h; simp only [AV.ren]; rw [renL_of_refs h]
  | .ifc _ v, h => by simp only [AV.refs] at h; simp only [AV.ren]; rw [ren_of_refs h]
  | .agg cs, h => by simp only [AV.refs] at h; simp only [AV.ren]; rw [renL_of_refs h]
  | .tup cs, h => by simp only [AV.refs] at h; simp only [AV.ren]; rw [renL_of_refs h]
theorem renL_of_refs {n : Nat} {idx : List Nat} : ∀ {vs : List AV}, refsL n vs = [] → renL n idx vs = vs
  | [], _ => rfl
  | v :: vs, h => by
    simp only [refsL, List.append_eq_nil_iff] at h
    simp only [renL]
    rw [ren_of_refs h.1, renL_of_refs h.2]
end
mutual
theorem refs_of_lim {n : Nat} : ∀ {v : AV}, v.lim n = true → v.refs n = []
  | .b _, _ | .i _ _, _ | .f _ _, _ | .s _, _ | .p none, _ | .sl none _ _ _, _ | .nilF, _ | .nilI, _ => rfl
  | .p (some r), h => by simp only [AV.lim, decide_eq_true_eq] at h; simp [AV.refs, h]
  | .sl (some r) _ _ _, h => by simp only [AV.lim, decide_eq_true_eq] at h; simp [AV.refs, h]
  | .fn _ cs, h => by simp only [AV.lim] at h; simp only [AV.refs]; exact refsL_of_lim h
  | .ifc _ v, h => by simp only [AV.lim] at h; simp only [AV.refs]; exact refs_of_lim h
  | .agg cs, h => by simp only [AV.lim] at h; simp only [AV.refs]; exact refsL_of_lim h
  | .tup cs, h => by simp only [AV.lim] at h; simp only [AV.refs]; exact refsL_of_lim h
theorem refsL_of_lim {n : Nat} : ∀ {vs : List AV}, lims n vs = true → refsL n vs = []
  | [], _ => rfl
  | v :: vs, h => by
    simp only [lims, Bool.and_eq_true] at h
    simp only [refsL]
    rw [refs_of_lim h.1, refsL_of_lim h.2]; rfl
end

/-- A result without new places. -/
theorem Neat.no {h h0 l : H} {d : Nat} {Q : AV → H → Prop} {v : AV} (hv : v.refs h.length = []) (hc : Chg h h0) (hq : Q v h0) : Neat h d Q v (h0 ++ l) := by
  have hr : reach h.length (h0 ++ l) d [v] = [] := by
    cases d with
    | zero => rfl
    | succ d => simp [reach, refsL, hv]
  unfold Neat
  rw [hr, ren_of_refs hv]
  refine ⟨⟨by simp [hc.len], by simp, by rw [hv]; simp, by simp, fun b hb => ?_⟩, ?_⟩
  · rw [List.getElem?_append_left (by rw [hc.len]; exact hb)]; exact hc.is b hb
  · rw [List.take_append_of_le_length (by rw [hc.len]; exact Nat.le_refl _), List.take_of_length_le (by rw [hc.len]; exact Nat.le_refl _)]
    simpa using hq
/-- A result that names new blocks, which hold no places. -/
theorem Neat.new {h h0 l : H} {d : Nat} {Q : AV → H → Prop} {v : AV} (ks : List (Nat × List AV)) (hc : Chg h h0) (hv : v.refs h.length = ks.map (fun p => h.length + p.1)) (hn : (ks.map (·.1)).Nodup) (hl : ∀ p ∈ ks, l[p.1]? = some ⟨p.2, .own⟩ ∧ lims h.length p.2 = true)
    (hq : Q (v.ren h.length (ks.map (fun p => h.length + p.1))) (h0 ++ ks.map fun p => ⟨p.2, .own⟩)) : Neat h (d + 1) Q v (h0 ++ l) := by
  have hget : ∀ p ∈ ks, (h0 ++ l)[h.length + p.1]? = some ⟨p.2, .own⟩ := fun p hp => by
    rw [← hc.len, get_new]; exact (hl p hp).1
  have hr : reach h.length (h0 ++ l) (d + 1) [v] = ks.map (fun p => h.length + p.1) := by
    simp only [reach, refsL, List.append_nil, hv]
    have : ∀ ks : List (Nat × List AV), (∀ p ∈ ks, (h0 ++ l)[h.length + p.1]? = some ⟨p.2, .own⟩ ∧ lims h.length p.2 = true) → (ks.map (fun p => h.length + p.1)).flatMap (fun b => b :: reach h.length (h0 ++ l) d (cellsAt (h0 ++ l) b)) = ks.map (fun p => h.length + p.1) := by
      intro ks
      induction ks with
      | nil => intro _; rfl
      | cons p ks ih =>
        intro hks
        simp only [List.map_cons, List.flatMap_cons]
        rw [ih fun q hq => hks q (by simp [hq])]
        obtain ⟨e1, e2⟩ := hks p (by simp)
        have : reach h.length (h0 ++ l) d (cellsAt (h0 ++ l) (h.length + p.1)) = [] := by
          cases d with
          | zero => rfl
          | succ d =>
            have : cellsAt (h0 ++ l) (h.length + p.1) = p.2 := by unfold cellsAt; rw [e1]
            rw [this]
            simp only [reach]
            rw [refsL_of_lim e2]; rfl
        rw [this]; rfl
    exact this ks fun p hp => ⟨hget p hp, (hl p hp).2⟩
  unfold Neat
  rw [hr]
  refine ⟨⟨by simp [hc.len], ?_, by rw [hv]; exact fun _ h => h, fun i hi => ?_, fun b hb => ?_⟩, ?_⟩
  · rw [List.nodup_iff_pairwise_ne, List.pairwise_map] at hn ⊢
    exact hn.imp fun h e => h (by omega)
  · obtain ⟨p, hp, rfl⟩ := List.mem_map.1 hi
    refine ⟨by omega, _, hget p hp, ?_⟩
    simp only
    rw [refsL_of_lim (hl p hp).2]; simp
  · rw [List.getElem?_append_left (by rw [hc.len]; exact hb)]; exact hc.is b hb
  · rw [List.take_append_of_le_length (by rw [hc.len]; exact Nat.le_refl _), List.take_of_length_le (by rw [hc.len]; exact Nat.le_refl _)]
    have : (ks.map (fun p => h.length + p.1)).map (renB h.length (ks.map (fun p => h.length + p.1)) (h0 ++ l)) = ks.map fun p => ⟨p.2, .own⟩ := by
      rw [List.map_map]
      apply List.map_congr_left
      intro p hp
      simp only [Function.comp, renB, hget p hp]
      rw [renL_of_refs (refsL_of_lim (hl p hp).2)]
    rw [this]; exact hq
section
variable {Φ : Phi} {f : FuncId} {F : AFun} {d : Nat} {args : List AV} {h : H} {Q : AV → H → Prop}
theorem W.freshL (hf : Φ f = some (.code (.fresh d) F)) (hr : EvC Φ F.body (bindArgs 0 args) (h ++ []) (Res F fun v h1 => h <+: h1 ∧ Neat h d Q v h1)) : W Φ f args h Q := W.fresh hf (by simpa using hr)
theorem W.neatL (hf : Φ f = some (.code (.neat d) F)) (hr : EvC Φ F.body (bindArgs 0 args) (h ++ []) (Res F (Neat h d Q))) : W Φ f args h Q := W.neat hf (by simpa using hr)
end

/-- What tidies a state, in one. -/
theorem KP : (∀ n, Env.get [] n = none) ∧ (∀ k v e n, Env.get ((k, v) :: e) n = if k = n then some v else Env.get e n) ∧ (∀ e v, Env.put e none v = e) ∧ (∀ e d v, Env.put e (some d) v = (d, v) :: e) ∧
    (∀ e, Env.keep e [] = []) ∧ (∀ e n ns, Env.keep e (n :: ns) = match e.get n with | some v => (n, v) :: e.keep ns | none => e.keep ns) ∧ (∀ i, bindArgs i [] = []) ∧ (∀ i v vs, bindArgs i (v :: vs) = (i, v) :: bindArgs (i + 1) vs) :=
  ⟨fun _ => rfl, fun _ _ _ _ => rfl, fun _ _ => rfl, fun _ _ _ => rfl, fun _ => rfl, fun _ _ _ => rfl, fun _ => rfl, fun _ _ _ => rfl⟩
theorem KH : (∀ (l : List AV) o vs, splice l o vs = l.take o ++ vs ++ l.drop (o + vs.length)) ∧ (∀ cs, AV.cells (.agg cs) = cs) ∧ (∀ x, AV.cells (.b x) = [.b x]) ∧ (∀ k x, AV.cells (.i k x) = [.i k x]) ∧ (∀ k x, AV.cells (.f k x) = [.f k x]) ∧ (∀ x, AV.cells (.s x) = [.s x]) ∧ (∀ r, AV.cells (.p r) = [.p r]) ∧ (∀ r l c g, AV.cells (.sl r l c g) = [.sl r l c g]) ∧
    (∀ (a b : Blk) l, List.set (a :: l) 0 b = b :: l) ∧ (∀ (a b : Blk) l n, List.set (a :: l) (n + 1) b = a :: List.set l n b) ∧ (∀ (a : AV) l n, List.take (n + 1) (a :: l) = a :: List.take n l) ∧ (∀ l : List AV, List.take 0 l = []) ∧ (∀ (a : AV) l n, List.drop (n + 1) (a :: l) = List.drop n l) ∧ (∀ l : List AV, List.drop 0 l = l) ∧
    (∀ (a : AV) l m, (a :: l) ++ m = a :: (l ++ m)) ∧ (∀ l : List AV, [] ++ l = l) ∧ (∀ (a : Blk) (l m : H), (a :: l) ++ m = a :: (l ++ m)) ∧ (∀ l : H, [] ++ l = l) ∧ (∀ a b c : H, (a ++ b) ++ c = a ++ (b ++ c)) ∧ (∀ (a : AV) l, (a :: l).length = l.length + 1) ∧ (([] : List AV).length = 0) ∧ (∀ (a : Blk) l, (a :: l).length = l.length + 1) ∧ (([] : H).length = 0) ∧ (∀ (l : H) i a, (l.set i a).length = l.length) ∧ (∀ n : Nat, 0 + n = n) :=
  ⟨fun _ _ _ => rfl, fun _ => rfl, fun _ => rfl, fun _ _ => rfl, fun _ _ => rfl, fun _ => rfl, fun _ => rfl, fun _ _ _ _ => rfl, fun _ _ _ => rfl, fun _ _ _ _ => rfl, fun _ _ _ => rfl, fun _ => rfl, fun _ _ _ => rfl, fun _ => rfl, fun _ _ _ => rfl, fun _ => rfl, fun _ _ _ => rfl, fun _ => rfl, fun _ _ _ => List.append_assoc _ _ _, fun _ _ => rfl, rfl, fun _ _ => rfl, rfl, fun _ _ _ => List.length_set, fun _ => Nat.zero_add _⟩
end Go.V
