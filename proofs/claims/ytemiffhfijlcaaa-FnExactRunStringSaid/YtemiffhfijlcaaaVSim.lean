import Derived.Test.YtemiffhfijlcaaaVFlt
import Derived.Laws.NewBlocks
import Derived.Deep.Draws
set_option linter.unusedSimpArgs false
set_option linter.unusedVariables false
set_option linter.unusedSectionVars false
/-! Abstract values, the abstract heap, and how they stand to the model's world. -/
namespace Go.V
open Go Go.RowKit

/-- A place in the abstract heap: block, cell. -/
structure Ref where
  b : Nat
  o : Nat
  deriving DecidableEq

/-- Abstract values. A slice bears its capacity as far as it is known, and, if it may have more, its elements' size. -/
inductive AV where
  | b (x : Bool)
  | i (k : IntKind) (n : Int)
  | f (k : FloatKind) (x : Nat)
  | s (x : ByteArray)
  | p (r : Option Ref)
  | sl (r : Option Ref) (len cap : Nat) (gr : Option Nat)
  | fn (f : FuncId) (caps : List AV)
  | nilF
  | nilI
  | ifc (t : TypeId) (v : AV)
  | agg (cs : List AV)
  | tup (vs : List AV)
  deriving Inhabited

/-- Does it take one cell? -/
def AV.one : AV → Bool
  | .agg _ | .tup _ => false
  | _ => true
/-- Its cells. -/
def AV.cells : AV → List AV
  | .agg cs => cs
  | v => [v]

inductive Md where
  | ro | own | dead
  deriving DecidableEq
structure Blk where
  cells : List AV
  md : Md
abbrev H := List Blk

/-- Where an abstract block lies: its block, its first cell there, how many cells that block has. -/
structure Ren where
  c : Nat
  sh : Nat
  sz : Nat
abbrev Rho := Nat → Option Ren

def RR (ρ : Rho) (r : Ref) (a : Addr) : Prop := ∃ n, ρ r.b = some n ∧ a = ⟨n.c, n.sh + r.o, none⟩

mutual
/-- The abstract value tells the model's. -/
def VR (ρ : Rho) : AV → Value → Prop
  | .b x, .bool y => x = y
  | .i k n, .int k' n' => k = k' ∧ n = n'
  | .f k x, .float k' y => k = k' ∧ x = cn k' y
  | .s x, .string y => x = y
  | .p none, .pointer none => True
  | .p (some r), .pointer (some a) => RR ρ r a
  | .sl none len cap _, .slice none len' cap' => len = len' ∧ cap = cap'
  | .sl (some r) len cap none, .slice (some a) len' cap' => RR ρ r a ∧ len = len' ∧ cap = cap'
  | .sl (some r) len cap (some es), .slice (some a) len' cap' => RR ρ r a ∧ len = len' ∧ len ≤ cap ∧ cap ≤ cap' ∧ ∀ n, ρ r.b = some n → a.off + cap' * es ≤ n.sz
  | .fn f caps, .func (.func f') first captured => f = f' ∧ first = #[] ∧ VRs ρ caps captured.toList
  | .nilF, .nilFunc => True
  | .nilI, .nilIface => True
  | .ifc t v, .iface t' v' => t = t' ∧ VR ρ v v'
  | .agg cs, .agg cs' => VRs ρ cs cs'.toList
  | .tup vs, .tuple vs' => VRs ρ vs vs'.toList
  | _, _ => False
def VRs (ρ : Rho) : List AV → List Value → Prop
  | [], [] => True
  | a :: as, v :: vs => VR ρ a v ∧ VRs ρ as vs
  | _, _ => False
end

def Rho.le (ρ ρ' : Rho) : Prop := ∀ b n, ρ b = some n → ρ' b = some n
theorem Rho.le_refl (ρ : Rho) : ρ.le ρ := fun _ _ h => h
theorem Rho.le_trans {a b c : Rho} (h : a.le b) (k : b.le c) : a.le c := fun x n hx => k x n (h x n hx)

theorem RR.mono {ρ ρ' : Rho} (h : ρ.le ρ') {r : Ref} {a : Addr} : RR ρ r a → RR ρ' r a := fun ⟨n, hn, ha⟩ => ⟨n, h _ _ hn, ha⟩

mutual
theorem VR.mono {ρ ρ' : Rho} (h : ρ.le ρ') : ∀ {v : AV} {x : Value}, VR ρ v x → VR ρ' v x
  | .b _, x, k => by cases x <;> simp_all [VR]
  | .i _ _, x, k => by cases x <;> simp_all [VR]
  | .f _ _, x, k => by cases x <;> simp_all [VR]
  | .s _, x, k => by cases x <;> simp_all [VR]
  | .p none, x, k => by
    cases x with
    | pointer a => cases a <;> simp_all [VR]
    | _ => simp_all [VR]
  | .p (some r), x, k => by
    cases x with
    | pointer a =>
      cases a with
      | none => simp [VR] at k
      | some a => simp only [VR] at k ⊢; exact k.mono h
    | _ => simp [VR] at k
  | .sl none len cap gr, x, k => by
    cases x with
    | slice a _ _ => cases a <;> simp_all [VR]
    | _ => simp [VR] at k
  | .sl (some r) len cap none, x, k => by
    cases x with
    | slice a _ _ =>
      cases a with
      | none => simp [VR] at k
      | some a => simp only [VR] at k ⊢; exact ⟨k.1.mono h, k.2⟩
    | _ => simp [VR] at k
  | .sl (some r) len cap (some es), x, k => by
    cases x with
    | slice a _ _ =>
      cases a with
      | none => simp [VR] at k
      | some a =>
        simp only [VR] at k ⊢
        refine ⟨k.1.mono h, k.2.1, k.2.2.1, k.2.2.2.1, fun n hn => ?_⟩
        obtain ⟨n', hn', _⟩ := k.1
        have := h _ _ hn'
        rw [hn] at this
        injection this with this
        subst this
        exact k.2.2.2.2 _ hn'
    | _ => simp [VR] at k
  | .fn f caps, x, k => by
    cases x with
    | func fn first captured =>
      cases fn with
      | func f' => simp only [VR] at k ⊢; exact ⟨k.1, k.2.1, VRs.mono h k.2.2⟩
      | _ => simp [VR] at k
    | _ => simp [VR] at k
  | .nilF, x, k => by cases x <;> simp_all [VR]
  | .nilI, x, k => by cases x <;> simp_all [VR]
  | .ifc t v, x, k => by
    cases x with
    | iface t' v' => simp only [VR] at k ⊢; exact ⟨k.1, VR.mono h k.2⟩
    | _ => simp [VR] at k
  | .agg cs, x, k => by
    cases x with
    | agg cs' => simp only [VR] at k ⊢; exact VRs.mono h k
    | _ => simp [VR] at k
  | .tup vs, x, k => by
    cases x with
    | tuple vs' => simp only [VR] at k ⊢; exact VRs.mono h k
    | _ => simp [VR] at k
theorem VRs.mono {ρ ρ' : Rho} (h : ρ.le ρ') : ∀ {vs : List AV} {xs : List Value}, VRs ρ vs xs → VRs ρ' vs xs
  | [], [], _ => by simp [VRs]
  | a :: as, v :: vs, k => by
    simp only [VRs] at k ⊢
    exact ⟨VR.mono h k.1, VRs.mono h k.2⟩
  | [], _ :: _, k => by simp [VRs] at k
  | _ :: _, [], k => by simp [VRs] at k
end

/-! Lists of values. -/
theorem VRs.length {ρ : Rho} : ∀ {vs : List AV} {xs : List Value}, VRs ρ vs xs → vs.length = xs.length
  | [], [], _ => rfl
  | a :: as, v :: vs, k => by simp only [VRs] at k; simp [VRs.length k.2]
  | [], _ :: _, k => by simp [VRs] at k
  | _ :: _, [], k => by simp [VRs] at k
theorem VRs.get {ρ : Rho} : ∀ {vs : List AV} {xs : List Value}, VRs ρ vs xs → ∀ (i : Nat) (v : AV), vs[i]? = some v → ∃ x, xs[i]? = some x ∧ VR ρ v x
  | [], [], _, i, v, h => by simp at h
  | a :: as, y :: ys, k, i, v, h => by
    simp only [VRs] at k
    cases i with
    | zero => simp at h; subst h; exact ⟨y, rfl, k.1⟩
    | succ i => simp at h; simpa using VRs.get k.2 i v h
  | [], _ :: _, k, _, _, _ => by simp [VRs] at k
  | _ :: _, [], k, _, _, _ => by simp [VRs] at k
theorem VRs.of_get {ρ : Rho} : ∀ {vs : List AV} {xs : List Value}, vs.length = xs.length → (∀ (i : Nat) (v : AV) (x : Value), vs[i]? = some v → xs[i]? = some x → VR ρ v x) → VRs ρ vs xs
  | [], [], _, _ => by simp [VRs]
  | a :: as, y :: ys, hl, h => by
    simp only [VRs]
    refine ⟨h 0 a y rfl rfl, VRs.of_get (by simpa using hl) fun i v x hv hx => h (i + 1) v x (by simpa using hv) (by simpa using hx)⟩
  | [], _ :: _, hl, _ => by simp at hl
  | _ :: _, [], hl, _ => by simp at hl
theorem VRs.append {ρ : Rho} : ∀ {vs us : List AV} {xs ys : List Value}, VRs ρ vs xs → VRs ρ us ys → VRs ρ (vs ++ us) (xs ++ ys)
  | [], us, [], ys, _, k => by simpa using k
  | a :: as, us, x :: xs, ys, h, k => by
    simp only [VRs, List.cons_append] at h ⊢
    exact ⟨h.1, VRs.append h.2 k⟩
  | [], _, _ :: _, _, h, _ => by simp [VRs] at h
  | _ :: _, _, [], _, h, _ => by simp [VRs] at h
theorem VRs.take {ρ : Rho} (n : Nat) {vs : List AV} {xs : List Value} (h : VRs ρ vs xs) : VRs ρ (vs.take n) (xs.take n) := by
  refine VRs.of_get (by simp [h.length]) fun i v x hv hx => ?_
  by_cases hi : i < n
  · rw [List.getElem?_take_of_lt hi] at hv hx
    obtain ⟨y, hy, r⟩ := h.get i v hv
    rw [hx] at hy; injection hy with hy; subst hy; exact r
  · rw [List.getElem?_take_eq_none (by omega)] at hv; cases hv
theorem VRs.drop {ρ : Rho} (n : Nat) {vs : List AV} {xs : List Value} (h : VRs ρ vs xs) : VRs ρ (vs.drop n) (xs.drop n) := by
  refine VRs.of_get (by simp [h.length]) fun i v x hv hx => ?_
  rw [List.getElem?_drop] at hv hx
  obtain ⟨y, hy, r⟩ := h.get _ v hv
  rw [hx] at hy; injection hy with hy; subst hy; exact r
theorem VRs.map {ρ : Rho} {α : Type} (f : α → AV) (g : α → Value) (l : List α) (h : ∀ x ∈ l, VR ρ (f x) (g x)) : VRs ρ (l.map f) (l.map g) := by
  induction l with
  | nil => simp [VRs]
  | cons a l ih => simp only [List.map_cons, VRs]; exact ⟨h a (by simp), ih fun x hx => h x (by simp [hx])⟩

theorem VR.cells {ρ : Rho} {v : AV} {x : Value} (h : VR ρ v x) : VRs ρ v.cells x.cells.toList := by
  cases v <;> cases x <;> simp_all [VR, AV.cells, Value.cells, VRs]
theorem VR.oneCell {ρ : Rho} {v : AV} {x : Value} (h : VR ρ v x) : x.oneCell' = v.one := by
  cases v <;> cases x <;> simp_all [VR, AV.one, Value.oneCell']

/-- Between two worlds, told from the world W0 in which all began. -/
structure Sim (W0 : World) (ρ : Rho) (h : H) (w : World) : Prop where
  below : Below W0.heap.size W0 w
  dom : ∀ b n, ρ b = some n → b < h.length ∧ n.c < w.heap.size
  live : ∀ b n blk, ρ b = some n → h[b]? = some blk → blk.md ≠ .dead →
    ∃ cells ty fr, w.heap[n.c]? = some (.cells cells ty fr) ∧ cells.size = n.sz ∧
      (∀ i v, blk.cells[i]? = some v → ∃ x, cells[n.sh + i]? = some x ∧ VR ρ v x ∧ v.one = true) ∧
      (blk.md = .own → W0.heap.size ≤ n.c ∧ fr = (0, 0))
  inj : ∀ b b' n n' blk blk', ρ b = some n → ρ b' = some n' → h[b]? = some blk → h[b']? = some blk' → blk.md ≠ .dead → blk'.md ≠ .dead → (blk.md = .own ∨ blk'.md = .own) → n.c = n'.c → b = b'

/-- What a step may have turned. -/
structure Grow (ρ : Rho) (h : H) (w : World) (ρ' : Rho) (h' : H) (w' : World) : Prop where
  le : ρ.le ρ'
  keep : ∀ b, b < h.length → ρ' b = ρ b
  len : h.length ≤ h'.length
  size : w.heap.size ≤ w'.heap.size
  streams : w'.os = w.os ∧ w'.tape = w.tape ∧ w'.output = w.output
  same : ∀ c, c < w.heap.size → (∀ b n blk, ρ b = some n → h[b]? = some blk → blk.md = .own → n.c ≠ c) → w'.heap[c]? = w.heap[c]?
  modes : ∀ (b : Nat) (blk blk' : Blk), h[b]? = some blk → h'[b]? = some blk' → (blk.md = .dead → blk'.md = .dead) ∧ (blk.md = .ro → blk' = blk) ∧ (blk'.md = .own → blk.md = .own)
  fresh : ∀ b n blk', h.length ≤ b → ρ' b = some n → h'[b]? = some blk' → blk'.md ≠ .dead →
    w.heap.size ≤ n.c ∨ ∃ b0 n0 blk0, ρ b0 = some n0 ∧ n0.c = n.c ∧ h[b0]? = some blk0 ∧ blk0.md = .own

theorem Grow.refl (ρ : Rho) (h : H) (w : World) : Grow ρ h w ρ h w :=
  ⟨Rho.le_refl ρ, fun _ _ => rfl, Nat.le_refl _, Nat.le_refl _, ⟨rfl, rfl, rfl⟩, fun _ _ _ => rfl,
    fun b blk blk' h1 h2 => by rw [h1] at h2; injection h2 with h2; subst h2; exact ⟨id, fun _ => rfl, id⟩,
    fun b n blk' hb _ hk _ => by rw [List.getElem?_eq_none hb] at hk; cases hk⟩

/-- Draws turn nothing. -/
theorem Grow.drewN (ρ : Rho) (h : H) (w : World) (n : Nat) : Grow ρ h w ρ h (w.drewN n) := by
  have := Grow.refl ρ h w
  exact ⟨this.le, this.keep, this.len, Nat.le_refl _, ⟨rfl, rfl, rfl⟩, fun _ _ _ => rfl, this.modes, this.fresh⟩

theorem at_some {h : H} {b : Nat} (hb : b < h.length) : ∃ blk, h[b]? = some blk := ⟨h[b], List.getElem?_eq_getElem hb⟩
theorem at_lt {h : H} {b : Nat} {blk : Blk} (hb : h[b]? = some blk) : b < h.length := by
  rcases Nat.lt_or_ge b h.length with h1 | h1
  · exact h1
  · rw [List.getElem?_eq_none h1] at hb; cases hb

theorem Grow.trans {ρ ρ1 ρ2 : Rho} {h h1 h2 : H} {w w1 w2 : World} (g : Grow ρ h w ρ1 h1 w1) (k : Grow ρ1 h1 w1 ρ2 h2 w2) : Grow ρ h w ρ2 h2 w2 := by
  refine ⟨Rho.le_trans g.le k.le, fun b hb => ?_, Nat.le_trans g.len k.len, Nat.le_trans g.size k.size,
    ⟨k.streams.1.trans g.streams.1, k.streams.2.1.trans g.streams.2.1, k.streams.2.2.trans g.streams.2.2⟩, fun c hc hn => ?_, fun b blk blk2 h0 h2b => ?_, fun b n blk2 hb hr h2b hl => ?_⟩
  · rw [k.keep b (Nat.lt_of_lt_of_le hb g.len), g.keep b hb]
  · rw [k.same c (Nat.lt_of_lt_of_le hc g.size) fun b n blk hr hb ho e => ?_, g.same c hc hn]
    subst e
    rcases Nat.lt_or_ge b h.length with hlt | hge
    · obtain ⟨blk0, hb0⟩ := at_some hlt
      rw [g.keep b hlt] at hr
      exact hn b n blk0 hr hb0 ((g.modes b blk0 blk hb0 hb).2.2 ho) rfl
    · rcases g.fresh b n blk hge hr hb (by rw [ho]; decide) with hf | ⟨b0, n0, blk0, hr0, hc0, hb0, ho0⟩
      · omega
      · exact hn b0 n0 blk0 hr0 hb0 ho0 hc0
  · obtain ⟨blk1, h1b⟩ := at_some (h := h1) (Nat.lt_of_lt_of_le (at_lt h0) g.len)
    have m1 := g.modes b blk blk1 h0 h1b
    have m2 := k.modes b blk1 blk2 h1b h2b
    refine ⟨fun hd => m2.1 (m1.1 hd), fun hr => ?_, fun ho => m1.2.2 (m2.2.2 ho)⟩
    have e1 := m1.2.1 hr
    rw [e1] at m2
    exact m2.2.1 hr
  · rcases Nat.lt_or_ge b h1.length with hlt | hge
    · rw [k.keep b hlt] at hr
      obtain ⟨blk1, h1b⟩ := at_some hlt
      exact g.fresh b n blk1 hb hr h1b fun hd => hl ((k.modes b blk1 blk2 h1b h2b).1 hd)
    · rcases k.fresh b n blk2 hge hr h2b hl with hf | ⟨b0, n0, blk0, hr0, hc0, hb0, ho0⟩
      · exact .inl (Nat.le_trans g.size hf)
      · rcases Nat.lt_or_ge b0 h.length with hlt0 | hge0
        · obtain ⟨blk00, hb00⟩ := at_some hlt0
          rw [g.keep b0 hlt0] at hr0
          exact .inr ⟨b0, n0, blk00, hr0, hc0, hb00, (g.modes b0 blk00 blk0 hb00 hb0).2.2 ho0⟩
        · rcases g.fresh b0 n0 blk0 hge0 hr0 hb0 (by rw [ho0]; decide) with hf | ⟨b1, n1, blk1, hr1, hc1, hb1, ho1⟩
          · exact .inl (by omega)
          · exact .inr ⟨b1, n1, blk1, hr1, hc1.trans hc0, hb1, ho1⟩
end Go.V
