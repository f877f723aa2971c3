import Derived.Test.YtemiffhfijlcaaaVEnc
set_option linter.unusedSimpArgs false
set_option linter.unusedVariables false
set_option linter.unusedSectionVars false
/-! Rules of operations on lists of elements. -/
namespace Go.V
open Go
section
variable {Φ : Phi} {e : Env} {h l : H} {Q : Env → H → Prop} {os : List AOper} {dst : Option Nat} {g : Option (Nat × Bool)}

theorem EvOps.plain {k : K} {xs : List AOpd} {vs : List AV} {h0 h' : H} {v : AV} (hw : (AOper.mk dst k xs g).wanted e = some true) (hv : vals e xs = some vs) (hk : k.isCall = false) (he : evalK k vs h0 = some (v, h'))
    (hq : EvOps Φ os (e.put dst v) h' Q) : EvOps Φ (⟨dst, k, xs, g⟩ :: os) e h0 Q := EvOps.step (n := 0) (evalOp_plain hw hv hk he) hq
/-- Loads and stores of new blocks, where the old heap's length is told otherwise. -/
theorem EvOps.ldLm {xs : List AOpd} {m k o : Nat} {v : AV} (hw : (AOper.mk dst .ld1 xs g).wanted e = some true) (hx : vals e xs = some [.p (some ⟨m + k, o⟩)]) (hr : rd l ⟨k, o⟩ = some v) (hm : h.length = m)
    (hq : EvOps Φ os (e.put dst v) (h ++ l) Q) : EvOps Φ (⟨dst, .ld1, xs, g⟩ :: os) e (h ++ l) Q := by subst hm; exact EvOps.ldL hw hx hr hq
theorem EvOps.ldnLm {xs : List AOpd} {m k o n : Nat} {cs : List AV} (hw : (AOper.mk dst (.ldn n) xs g).wanted e = some true) (hx : vals e xs = some [.p (some ⟨m + k, o⟩)]) (hr : rdn l ⟨k, o⟩ n = some cs) (hm : h.length = m)
    (hq : EvOps Φ os (e.put dst (.agg cs)) (h ++ l) Q) : EvOps Φ (⟨dst, .ldn n, xs, g⟩ :: os) e (h ++ l) Q := by subst hm; exact EvOps.ldnL hw hx hr hq
theorem EvOps.stLm {xs : List AOpd} {m k o n : Nat} {u : AV} {l' : H} (hw : (AOper.mk dst (.st n) xs g).wanted e = some true) (hx : vals e xs = some [.p (some ⟨m + k, o⟩), u]) (hn : u.cells.length = n) (hr : wrn l ⟨k, o⟩ u.cells = some l') (hm : h.length = m)
    (hq : EvOps Φ os (e.put dst (.tup [])) (h ++ l') Q) : EvOps Φ (⟨dst, .st n, xs, g⟩ :: os) e (h ++ l) Q := by subst hm; exact EvOps.stL hw hx hn hr hq
/-- Another name for the heap. -/
theorem EvC.gen {c : AC} {h0 : H} {Q : AX → Env → H → Prop} {P : H → Prop} (hP : P h0) (hr : ∀ HB, P HB → EvC Φ c e HB Q) : EvC Φ c e h0 Q := hr h0 hP
theorem EvOps.heap {h0 : H} (h1 : H) (he : h0 = h1) (hr : EvOps Φ os e h1 Q) : EvOps Φ os e h0 Q := by subst he; exact hr
theorem EvC.heap {c : AC} {h0 : H} {Q : AX → Env → H → Prop} (h1 : H) (he : h0 = h1) (hr : EvC Φ c e h1 Q) : EvC Φ c e h0 Q := by subst he; exact hr
/-- A sum that fits. -/
theorem EvOps.addI {xs : List AOpd} {a b : Int} {h : H} (hw : (AOper.mk dst (.bin .add) xs g).wanted e = some true) (hx : vals e xs = some [.i .i64 a, .i .i64 b]) (hb : -9223372036854775808 ≤ a + b ∧ a + b ≤ 9223372036854775807)
    (hq : EvOps Φ os (e.put dst (.i .i64 (a + b))) h Q) : EvOps Φ (⟨dst, .bin .add, xs, g⟩ :: os) e h Q :=
  EvOps.plain hw hx rfl (by simp only [evalK, evalP, binV, isShift, ibin]; simp [Go.IntWalk.i64_in _ (by omega : -9223372036854775808 ≤ a + b ∧ a + b ≤ 9223372036854775807)]) hq
theorem EvOps.subI {xs : List AOpd} {a b : Int} {h : H} (hw : (AOper.mk dst (.bin .sub) xs g).wanted e = some true) (hx : vals e xs = some [.i .i64 a, .i .i64 b]) (hb : -9223372036854775808 ≤ a - b ∧ a - b ≤ 9223372036854775807)
    (hq : EvOps Φ os (e.put dst (.i .i64 (a - b))) h Q) : EvOps Φ (⟨dst, .bin .sub, xs, g⟩ :: os) e h Q :=
  EvOps.plain hw hx rfl (by simp only [evalK, evalP, binV, isShift, ibin]; simp [Go.IntWalk.i64_in _ (by omega : -9223372036854775808 ≤ a - b ∧ a - b ≤ 9223372036854775807)]) hq
theorem EvOps.mulI {xs : List AOpd} {a b : Int} {h : H} (hw : (AOper.mk dst (.bin .mul) xs g).wanted e = some true) (hx : vals e xs = some [.i .i64 a, .i .i64 b]) (hb : -9223372036854775808 ≤ a * b ∧ a * b ≤ 9223372036854775807)
    (hq : EvOps Φ os (e.put dst (.i .i64 (a * b))) h Q) : EvOps Φ (⟨dst, .bin .mul, xs, g⟩ :: os) e h Q :=
  EvOps.plain hw hx rfl (by simp only [evalK, evalP, binV, isShift, ibin]; simp [Go.IntWalk.i64_in _ hb]) hq
/-- An element's place. -/
theorem EvOps.iaJ (j : Nat) {xs : List AOpd} {es len cap : Nat} {gr : Option Nat} {k : IntKind} {q : Ref} {i : Int} {h : H} (hw : (AOper.mk dst (.ia es) xs g).wanted e = some true) (hx : vals e xs = some [.sl (some q) len cap gr, .i k i]) (hj : i = j) (hi : j < len)
    (hq : EvOps Φ os (e.put dst (.p (some (q.add (j * es))))) h Q) : EvOps Φ (⟨dst, .ia es, xs, g⟩ :: os) e h Q := by
  subst hj
  exact EvOps.iaN hw hx hi hq
/-- A new slice of equal elements. -/
theorem EvOps.mkL {α : Type} (c : α → List AV) (z0 : α) {es bytes : Nat} [hc : Cells c es] {z : List AV} {xs : List AOpd} {k1 k2 : IntKind} {n : Int} (m : Nat) {k : Nat} (hw : (AOper.mk dst (.mk es bytes z) xs g).wanted e = some true) (hx : vals e xs = some [.i k1 n, .i k2 n]) (hz : z = c z0) (hn : n = m)
    (hb : m * bytes ≤ 281474976710656 ∧ m ≤ 281474976710656) (hl : l.length = k) (hq : EvOps Φ os (e.put dst (.sl (some ⟨h.length + k, 0⟩) m m none)) (h ++ (l ++ [⟨fl c (List.replicate m z0), .own⟩])) Q) : EvOps Φ (⟨dst, .mk es bytes z, xs, g⟩ :: os) e (h ++ l) Q := by
  subst hz hn
  refine EvOps.plain hw hx rfl (v := .sl (some ⟨h.length + k, 0⟩) m m none) (h' := h ++ (l ++ [⟨fl c (List.replicate m z0), .own⟩])) ?_ hq
  simp only [evalK]
  rw [if_pos ⟨by omega, by omega, by have := Int.ofNat_le.2 hb.1; rw [Int.natCast_mul] at this; exact this, by have := hb.2; omega⟩]
  simp [zeros_fl, hl]
/-- A store of a whole element, into a new block or an old one. -/
theorem EvOps.stEL {α : Type} (c : α → List AV) (ys : List α) (y : α) {es : Nat} [hc : Cells c es] {xs : List AOpd} {k i : Nat} {u : AV} (hw : (AOper.mk dst (.st es) xs g).wanted e = some true) (hx : vals e xs = some [.p (some ((⟨h.length + k, 0⟩ : Ref).add (i * es))), u]) (hb : l[k]? = some ⟨fl c ys, .own⟩) (hi : i < ys.length) (hu : u.cells = c y)
    (hq : EvOps Φ os (e.put dst (.tup [])) (h ++ l.set k ⟨fl c (ys.set i y), .own⟩) Q) : EvOps Φ (⟨dst, .st es, xs, g⟩ :: os) e (h ++ l) Q := by
  refine EvOps.stL (l' := l.set k ⟨fl c (ys.set i y), .own⟩) (k := k) (o := i * es) (u := u) hw (by rw [hx]; simp [Ref.add]) (by rw [hu]; exact hc.len y) ?_ hq
  unfold wrn
  simp only [hb, hu]
  have : i * es + es ≤ (fl c ys).length := by rw [fl_length, ← Nat.succ_mul]; exact Nat.mul_le_mul_right _ hi
  rw [if_pos (by refine ⟨?_, ?_, ?_⟩ <;> first | trivial | (rw [hc.len]; exact this) | exact hc.one y), fl_splice hi]
theorem EvOps.stEH {α : Type} (c : α → List AV) (ys : List α) (y : α) {es : Nat} [hc : Cells c es] {xs : List AOpd} {b i : Nat} {u : AV} (hw : (AOper.mk dst (.st es) xs g).wanted e = some true) (hx : vals e xs = some [.p (some ((⟨b, 0⟩ : Ref).add (i * es))), u]) (hb : h[b]? = some ⟨fl c ys, .own⟩) (hi : i < ys.length) (hu : u.cells = c y)
    (hq : EvOps Φ os (e.put dst (.tup [])) (h.set b ⟨fl c (ys.set i y), .own⟩ ++ l) Q) : EvOps Φ (⟨dst, .st es, xs, g⟩ :: os) e (h ++ l) Q := by
  refine EvOps.stH (h' := h.set b ⟨fl c (ys.set i y), .own⟩) hw hx (by rw [hu]; exact hc.len y) ?_ hq
  unfold wrn
  simp only [Ref.add, Nat.zero_add, hb, hu]
  have : i * es + es ≤ (fl c ys).length := by rw [fl_length, ← Nat.succ_mul]; exact Nat.mul_le_mul_right _ hi
  rw [if_pos (by refine ⟨?_, ?_, ?_⟩ <;> first | trivial | (rw [hc.len]; exact this) | exact hc.one y), fl_splice hi]
/-- A store into one cell of an element of an old block. -/
theorem EvOps.st1H {α : Type} (c : α → List AV) (ys : List α) (y : α) {es : Nat} [hc : Cells c es] {xs : List AOpd} {b i j : Nat} {u : AV} (hw : (AOper.mk dst (.st 1) xs g).wanted e = some true) (hx : vals e xs = some [.p (some (((⟨b, 0⟩ : Ref).add (i * es)).add j)), u]) (hb : h[b]? = some ⟨fl c ys, .own⟩) (hi : i < ys.length) (hj : j < es) (hc1 : u.cells = [u]) (h1 : u.one = true) (hu : splice (c ys[i]) j [u] = c y)
    (hq : EvOps Φ os (e.put dst (.tup [])) (h.set b ⟨fl c (ys.set i y), .own⟩ ++ l) Q) : EvOps Φ (⟨dst, .st 1, xs, g⟩ :: os) e (h ++ l) Q := by
  refine EvOps.stH (h' := h.set b ⟨fl c (ys.set i y), .own⟩) hw hx (by rw [hc1]; rfl) ?_ hq
  unfold wrn
  simp only [Ref.add, Nat.zero_add, hb, hc1]
  have : i * es + es ≤ (fl c ys).length := by rw [fl_length, ← Nat.succ_mul]; exact Nat.mul_le_mul_right _ hi
  rw [if_pos (by refine ⟨?_, ?_, ?_⟩ <;> first | trivial | (simp; omega) | simp [h1]), fl_splice1 hi hu hj]
/-- A store of some cells into an old block. -/
theorem EvOps.stB {xs : List AOpd} {b o n : Nat} {u : AV} {cells : List AV} (cells' : List AV) (hw : (AOper.mk dst (.st n) xs g).wanted e = some true) (hx : vals e xs = some [.p (some ⟨b, o⟩), u]) (hb : h[b]? = some ⟨cells, .own⟩) (hu : u.cells.length = n) (ho : o + n ≤ cells.length) (h1 : u.cells.all AV.one = true) (hs : splice cells o u.cells = cells')
    (hq : EvOps Φ os (e.put dst (.tup [])) (h.set b ⟨cells', .own⟩ ++ l) Q) : EvOps Φ (⟨dst, .st n, xs, g⟩ :: os) e (h ++ l) Q := by
  refine EvOps.stH (h' := h.set b ⟨cells', .own⟩) hw hx hu ?_ hq
  unfold wrn
  simp only [hb]
  rw [if_pos (by refine ⟨?_, ?_, ?_⟩ <;> first | trivial | (rw [hu]; exact ho) | exact h1), hs]
/-- A load from an old block. -/
theorem rd_block {b o : Nat} {cells : List AV} {md : Md} {v : AV} (hb : h[b]? = some ⟨cells, md⟩) (hd : md ≠ .dead) (hv : cells[o]? = some v) : rd h ⟨b, o⟩ = some v := by
  unfold rd; simp only [hb]; rw [if_neg hd]; exact hv

/-- A slice that grows by append: nothing yet, or a block of the call's own, just full. -/
def Grown {α : Type} (h l : H) (c : α → List AV) (es : Nat) (v : AV) (xs : List α) : Prop :=
  (v = .sl none 0 0 none ∧ xs = []) ∨ ∃ p, l[p]? = some ⟨fl c xs, .own⟩ ∧ v = .sl (some ⟨h.length + p, 0⟩) xs.length xs.length (some es)
theorem Grown.nil {α : Type} {c : α → List AV} {es : Nat} : Grown h l c es (.sl none 0 0 none) ([] : List α) := .inl ⟨rfl, rfl⟩
theorem Grown.app {α : Type} {c : α → List AV} {es : Nat} {v : AV} {xs : List α} (k : H) (hg : Grown h l c es v xs) : Grown h (l ++ k) c es v xs := by
  rcases hg with ⟨a, b⟩ | ⟨p, a, b⟩
  · exact .inl ⟨a, b⟩
  · exact .inr ⟨p, get_old a, b⟩
/-- Its length. -/
theorem Grown.is {α : Type} {c : α → List AV} {es : Nat} {v : AV} {xs : List α} (hg : Grown h l c es v xs) : ∃ r gr, v = .sl r xs.length xs.length gr := by
  rcases hg with ⟨rfl, rfl⟩ | ⟨p, a, rfl⟩
  · exact ⟨_, _, rfl⟩
  · exact ⟨_, _, rfl⟩
theorem Grown.vw {α : Type} {c : α → List AV} {es : Nat} [hc : Cells c es] {v : AV} {xs : List α} (hg : Grown h l c es v xs) : Vw (h ++ l) c es v xs := by
  rcases hg with ⟨rfl, rfl⟩ | ⟨p, a, rfl⟩
  · exact Vw.nil
  · exact Vw.of_own (by rw [get_new]; exact a)
/-- Append of some elements. -/
theorem EvOps.appG {α : Type} (c : α → List AV) {es bytes : Nat} [hc : Cells c es] {xs : List AOpd} {v x : AV} {us ys : List α} (hg : Grown h l c es v us) (hw : (AOper.mk dst (.app es bytes) xs g).wanted e = some true) (hx : vals e xs = some [v, x]) (hs : srcCells (h ++ l) es x = some (ys.length, fl c ys)) (hy : ys ≠ [])
    (hb : (us.length + ys.length) * bytes ≤ 140737488355328 ∧ us.length + ys.length ≤ 4611686018427387904)
    (hq : ∀ l' v', Grown h l' c es v' (us ++ ys) → EvOps Φ os (e.put dst v') (h ++ l') Q) : EvOps Φ (⟨dst, .app es bytes, xs, g⟩ :: os) e (h ++ l) Q := by
  have hyl : 0 < ys.length := List.length_pos_iff.2 hy
  have hp := hc.pos
  rcases hg with ⟨rfl, rfl⟩ | ⟨p, hp1, rfl⟩
  · refine EvOps.plain hw hx rfl (v := .sl (some ⟨h.length + l.length, 0⟩) ys.length ys.length (some es)) (h' := h ++ (l ++ [⟨fl c ys, .own⟩])) ?_ (hq _ _ (.inr ⟨l.length, by simp, by simp⟩))
    simp only [List.length_nil, Nat.zero_add] at hb
    simp only [evalK, hs]
    unfold appV
    simp only [Nat.zero_add]
    rw [if_neg (by omega), if_neg (by omega), if_neg (by omega)]
    simp [fl_one]
  · refine EvOps.plain hw hx rfl (v := .sl (some ⟨h.length + l.length, 0⟩) (us.length + ys.length) (us.length + ys.length) (some es)) (h' := h ++ (l.set p ⟨[], .dead⟩ ++ [⟨fl c us ++ fl c ys, .own⟩])) ?_ (hq _ _ (.inr ⟨l.length, by rw [List.getElem?_append_right (by simp)]; simp [fl_append], by simp⟩))
    have hblk : (h ++ l)[h.length + p]? = some ⟨fl c us, .own⟩ := by rw [get_new]; exact hp1
    simp only [evalK, hs]
    unfold appV
    rw [if_neg (by omega), if_neg (by omega), if_neg (by omega)]
    dsimp only
    rw [if_neg (show ¬ (es ≠ es) by simp)]
    simp only [hblk]
    rw [rdn_block hblk (by decide) (by simp [fl_length])]
    simp only [List.drop_zero]
    rw [List.take_of_length_le (by rw [fl_length]; exact Nat.le_refl _)]
    simp [fl_one, set_new]
/-- The slice of the elements written out. -/
theorem EvOps.bsG {es n : Nat} {z : List AV} {ps : List (Nat × Nat)} {xs : List AOpd} {vs : List AV} (cells : List AV) {k : Nat} (hw : (AOper.mk dst (.bs es n z ps) xs g).wanted e = some true) (hx : vals e xs = some vs) (hz : lay z ps vs = some cells) (h1 : cells.all AV.one = true) (hl : l.length = k)
    (hq : EvOps Φ os (e.put dst (.sl (some ⟨h.length + k, 0⟩) n n none)) (h ++ (l ++ [⟨cells, .own⟩])) Q) : EvOps Φ (⟨dst, .bs es n z ps, xs, g⟩ :: os) e (h ++ l) Q :=
  EvOps.plain hw hx rfl (by simp only [evalK, hz, h1, if_true, List.length_append, hl, List.append_assoc]) hq
/-- Append to an empty slice that has a block. -/
theorem EvOps.appE {α : Type} (c : α → List AV) {es bytes : Nat} [hc : Cells c es] {xs : List AOpd} {r : Ref} {x : AV} {ys : List α} {k : Nat} (hw : (AOper.mk dst (.app es bytes) xs g).wanted e = some true) (hx : vals e xs = some [.sl (some r) 0 0 none, x]) (hs : srcCells (h ++ l) es x = some (ys.length, fl c ys)) (hy : ys ≠ [])
    (hr : rdn (h ++ l) r 0 = some []) (hb : ys.length * bytes ≤ 140737488355328 ∧ ys.length ≤ 4611686018427387904) (hl : l.length = k)
    (hq : EvOps Φ os (e.put dst (.sl (some ⟨h.length + k, 0⟩) ys.length ys.length (some es))) (h ++ (l ++ [⟨fl c ys, .own⟩])) Q) : EvOps Φ (⟨dst, .app es bytes, xs, g⟩ :: os) e (h ++ l) Q := by
  have hyl : 0 < ys.length := List.length_pos_iff.2 hy
  have hp := hc.pos
  refine EvOps.plain hw hx rfl (v := .sl (some ⟨h.length + k, 0⟩) ys.length ys.length (some es)) (h' := h ++ (l ++ [⟨fl c ys, .own⟩])) ?_ hq
  simp only [evalK, hs]
  unfold appV
  simp only [Nat.zero_add]
  rw [if_neg (by omega), if_neg (by omega), if_neg (by omega)]
  simp only [Nat.zero_mul, hr]
  simp [fl_one, hl]

/-! Regions that draw their order, with a store at the end of what is drawn. -/
section
variable {pre : List Nat} {B : Nat} {Y : Blk} {n0 j p : Nat}
theorem EvT.ldL {xs : List AOpd} {k o : Nat} {v : AV} (hw : (AOper.mk dst .ld1 xs g).wanted e = some true) (hx : vals e xs = some [.p (some ⟨h.length + k, o⟩)]) (hr : rd l ⟨k, o⟩ = some v) (hB : h.length + k ≠ B)
    (hq : EvT Φ pre B Y n0 (j + 1) p os (e.put dst v) (h ++ l) Q) : EvT Φ pre B Y n0 j (p + 1) (⟨dst, .ld1, xs, g⟩ :: os) e (h ++ l) Q :=
  EvT.plain (evalOp_plain hw hx rfl (by simp only [evalK, rd_new, hr])) (evalOp_plain hw hx rfl (by simp only [evalK]; rw [rd_set (by exact hB), rd_new, hr])) hq
theorem EvT.ldH {xs : List AOpd} {r : Ref} {v : AV} (hw : (AOper.mk dst .ld1 xs g).wanted e = some true) (hx : vals e xs = some [.p (some r)]) (hr : rd h r = some v) (hB : r.b ≠ B)
    (hq : EvT Φ pre B Y n0 (j + 1) p os (e.put dst v) (h ++ l) Q) : EvT Φ pre B Y n0 j (p + 1) (⟨dst, .ld1, xs, g⟩ :: os) e (h ++ l) Q :=
  EvT.plain (evalOp_plain hw hx rfl (by simp only [evalK, rd_app l hr])) (evalOp_plain hw hx rfl (by simp only [evalK]; rw [rd_set hB, rd_app l hr])) hq
theorem EvT.ldnL {xs : List AOpd} {k o n : Nat} {cs : List AV} (hw : (AOper.mk dst (.ldn n) xs g).wanted e = some true) (hx : vals e xs = some [.p (some ⟨h.length + k, o⟩)]) (hr : rdn l ⟨k, o⟩ n = some cs) (hB : h.length + k ≠ B)
    (hq : EvT Φ pre B Y n0 (j + 1) p os (e.put dst (.agg cs)) (h ++ l) Q) : EvT Φ pre B Y n0 j (p + 1) (⟨dst, .ldn n, xs, g⟩ :: os) e (h ++ l) Q :=
  EvT.plain (evalOp_plain hw hx rfl (by simp only [evalK, rdn_new, hr])) (evalOp_plain hw hx rfl (by simp only [evalK]; rw [rdn_set (by exact hB), rdn_new, hr])) hq
theorem EvT.ldnH {xs : List AOpd} {r : Ref} {n : Nat} {cs : List AV} (hw : (AOper.mk dst (.ldn n) xs g).wanted e = some true) (hx : vals e xs = some [.p (some r)]) (hr : rdn h r n = some cs) (hB : r.b ≠ B)
    (hq : EvT Φ pre B Y n0 (j + 1) p os (e.put dst (.agg cs)) (h ++ l) Q) : EvT Φ pre B Y n0 j (p + 1) (⟨dst, .ldn n, xs, g⟩ :: os) e (h ++ l) Q :=
  EvT.plain (evalOp_plain hw hx rfl (by simp only [evalK, rdn_app l hr])) (evalOp_plain hw hx rfl (by simp only [evalK]; rw [rdn_set hB, rdn_app l hr])) hq
theorem EvT.iaJ (i' : Nat) {xs : List AOpd} {es len cap : Nat} {gr : Option Nat} {k : IntKind} {q : Ref} {i : Int} (hw : (AOper.mk dst (.ia es) xs g).wanted e = some true) (hx : vals e xs = some [.sl (some q) len cap gr, .i k i]) (hj : i = i') (hi : i' < len)
    (hq : EvT Φ pre B Y n0 (j + 1) p os (e.put dst (.p (some (q.add (i' * es))))) h Q) : EvT Φ pre B Y n0 j (p + 1) (⟨dst, .ia es, xs, g⟩ :: os) e h Q := by
  subst hj
  exact EvT.plain (evalOp_plain hw hx rfl (by simp only [evalK, evalP]; rw [if_pos (by omega)]; simp)) (evalOp_plain hw hx rfl (by simp only [evalK, evalP]; rw [if_pos (by omega)]; simp)) hq
theorem EvT.addI {xs : List AOpd} {a b : Int} (hw : (AOper.mk dst (.bin .add) xs g).wanted e = some true) (hx : vals e xs = some [.i .i64 a, .i .i64 b]) (hb : -9223372036854775808 ≤ a + b ∧ a + b ≤ 9223372036854775807)
    (hq : EvT Φ pre B Y n0 (j + 1) p os (e.put dst (.i .i64 (a + b))) h Q) : EvT Φ pre B Y n0 j (p + 1) (⟨dst, .bin .add, xs, g⟩ :: os) e h Q :=
  have hw64 := Go.IntWalk.i64_in _ (by omega : -9223372036854775808 ≤ a + b ∧ a + b ≤ 9223372036854775807)
  EvT.plain (evalOp_plain hw hx rfl (by simp only [evalK, evalP, binV, isShift, ibin]; simp [hw64])) (evalOp_plain hw hx rfl (by simp only [evalK, evalP, binV, isShift, ibin]; simp [hw64])) hq
theorem EvT.allocL {z : List AV} {k : Nat} (hw : (AOper.mk dst (.alloc z) [] g).wanted e = some true) (hl : l.length = k) (hB : pre.contains j = true ∨ B < h.length + k)
    (hq : EvT Φ pre B Y n0 (j + 1) p os (e.put dst (.p (some ⟨h.length + k, 0⟩))) (h ++ (l ++ [⟨z, .own⟩])) Q) : EvT Φ pre B Y n0 j (p + 1) (⟨dst, .alloc z, [], g⟩ :: os) e (h ++ l) Q := by
  refine EvT.step (n := 0) (v := .p (some ⟨h.length + k, 0⟩)) (h' := h ++ (l ++ [⟨z, .own⟩])) (evalOp_plain hw rfl rfl (by simp only [evalK, List.length_append, hl, List.append_assoc])) (by rw [← List.append_assoc]; exact List.prefix_append _ _) (hB.imp id fun hB => ?_) hq
  refine evalOp_plain hw rfl rfl ?_
  simp only [evalK, List.length_set, List.length_append, hl]
  rw [← List.append_assoc, set_old (h := h ++ l) (l := [⟨z, .own⟩]) (x := Y) (b := B) (by rw [List.length_append, hl]; exact hB)]
theorem EvT.turnL {xs : List AOpd} {k o n : Nat} {u : AV} {X : Blk} (hw : (AOper.mk dst (.st n) xs g).wanted e = some true) (hx : vals e xs = some [.p (some ⟨h.length + k, o⟩), u]) (hn : u.cells.length = n) (hX : l[k]? = some X) (hXo : X.md = .own) (hr : wrn l ⟨k, o⟩ u.cells = some (l.set k Y)) (hY : Y.md = .own) (hlm : lims n0 Y.cells = true)
    (hq : EvOps Φ os (e.put dst (.tup [])) (h ++ l.set k Y) Q) : EvT Φ pre (h.length + k) Y n0 j 0 (⟨dst, .st n, xs, g⟩ :: os) e (h ++ l) Q := by
  have e1 : (h ++ l).set (h.length + k) Y = h ++ l.set k Y := set_new h l k Y
  refine EvT.turn (n := 0) (v := .tup []) (X := X) (by rw [get_new]; exact hX) hXo hY hlm ?_ (by rw [e1]; exact hq)
  rw [e1]
  exact evalOp_plain hw hx rfl (by simp only [evalK, hn, if_true, wrn_new hr])
theorem EvT.turnH {α : Type} (c : α → List AV) (ys : List α) (y : α) {es : Nat} [hc : Cells c es] {xs : List AOpd} {i : Nat} {u : AV} (hw : (AOper.mk dst (.st es) xs g).wanted e = some true) (hx : vals e xs = some [.p (some ((⟨B, 0⟩ : Ref).add (i * es))), u]) (hb : h[B]? = some ⟨fl c ys, .own⟩) (hi : i < ys.length) (hu : u.cells = c y) (hY : Y = ⟨fl c (ys.set i y), .own⟩)
    (hq : EvOps Φ os (e.put dst (.tup [])) (h.set B ⟨fl c (ys.set i y), .own⟩ ++ l) Q) : EvT Φ pre B Y n0 j 0 (⟨dst, .st es, xs, g⟩ :: os) e (h ++ l) Q := by
  subst hY
  have e1 : (h ++ l).set B ⟨fl c (ys.set i y), .own⟩ = h.set B ⟨fl c (ys.set i y), .own⟩ ++ l := set_old (at_lt hb)
  refine EvT.turn (n := 0) (v := .tup []) (X := ⟨fl c ys, .own⟩) (get_old hb) rfl rfl (fl_lim _ _) ?_ (by rw [e1]; exact hq)
  rw [e1]
  refine evalOp_plain hw hx rfl ?_
  have hw1 : wrn h ((⟨B, 0⟩ : Ref).add (i * es)) u.cells = some (h.set B ⟨fl c (ys.set i y), .own⟩) := by
    unfold wrn
    simp only [Ref.add, Nat.zero_add, hb, hu]
    have : i * es + es ≤ (fl c ys).length := by rw [fl_length, ← Nat.succ_mul]; exact Nat.mul_le_mul_right _ hi
    rw [if_pos (by refine ⟨?_, ?_, ?_⟩ <;> first | trivial | (rw [hc.len]; exact this) | exact hc.one y), fl_splice hi]
  simp only [evalK]
  rw [if_pos (by rw [hu]; exact hc.len y)]
  simp only [wrn_old hw1]
end
end
end Go.V
