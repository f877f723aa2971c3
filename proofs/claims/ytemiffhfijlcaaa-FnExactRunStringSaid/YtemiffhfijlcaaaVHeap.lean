import Derived.Test.YtemiffhfijlcaaaVSim
import Derived.Laws.CopyRow
set_option linter.unusedSimpArgs false
set_option linter.unusedVariables false
set_option linter.unusedSectionVars false
/-! What a step does to the two heaps: a read, a new block, a store, a block that is given up. -/
namespace Go.V
open Go Go.RowKit

variable {W0 : World} {ρ : Rho} {h : H} {w : World}

theorem Sim.drewN (S : Sim W0 ρ h w) (n : Nat) : Sim W0 ρ h (w.drewN n) :=
  ⟨S.below.trans ⟨rfl, rfl, rfl, Nat.le_refl _, fun _ _ => rfl⟩, S.dom, S.live, S.inj⟩

/-- One more block told. -/
def Rho.upd (ρ : Rho) (b : Nat) (n : Ren) : Rho := fun x => if x = b then some n else ρ x
theorem Rho.upd_same (ρ : Rho) (b : Nat) (n : Ren) : ρ.upd b n b = some n := by simp [Rho.upd]
theorem Rho.upd_ne (ρ : Rho) {b x : Nat} (n : Ren) (hx : x ≠ b) : ρ.upd b n x = ρ x := by simp [Rho.upd, hx]
theorem Sim.out (S : Sim W0 ρ h w) {b : Nat} (hb : h.length ≤ b) : ρ b = none := by
  cases e : ρ b with
  | none => rfl
  | some n => exact absurd (S.dom b n e).1 (by omega)
theorem Sim.le_upd (S : Sim W0 ρ h w) (n : Ren) : ρ.le (ρ.upd h.length n) := fun b m hb => by
  rw [Rho.upd_ne]
  · exact hb
  · have := (S.dom b m hb).1
    omega

theorem size_setRow (w : World) (g : Nat) (cs : Array Value) : (w.setRow g cs).heap.size = w.heap.size := by simp [World.setRow]

theorem get_append_last {α : Type} (l : List α) (x : α) : (l ++ [x])[l.length]? = some x := by simp
theorem get_append_lt {α : Type} (l : List α) (x : α) {b : Nat} (hb : b < l.length) : (l ++ [x])[b]? = l[b]? := List.getElem?_append_left hb
theorem get_append_cases {α : Type} {l : List α} {x : α} {b : Nat} {y : α} (hb : (l ++ [x])[b]? = some y) : (b < l.length ∧ l[b]? = some y) ∨ (b = l.length ∧ y = x) := by
  rcases Nat.lt_or_ge b l.length with h | h
  · rw [get_append_lt l x h] at hb; exact .inl ⟨h, hb⟩
  · rw [List.getElem?_append_right h] at hb
    rcases Nat.eq_or_lt_of_le h with e | e
    · subst e; simp at hb; exact .inr ⟨rfl, hb.symm⟩
    · have : 1 ≤ b - l.length := by omega
      rw [List.getElem?_eq_none (by simpa using this)] at hb; cases hb
theorem get_set_cases {α : Type} {l : List α} {x : α} {i b : Nat} {y : α} (hb : (l.set i x)[b]? = some y) : (b = i ∧ y = x) ∨ (b ≠ i ∧ l[b]? = some y) := by
  rw [List.getElem?_set] at hb
  split at hb
  · split at hb
    · cases hb; rename_i e _; exact .inl ⟨e.symm, rfl⟩
    · cases hb
  · rename_i e; exact .inr ⟨fun q => e q.symm, hb⟩

/-- A new block of the call's own. -/
theorem Sim.alloc (S : Sim W0 ρ h w) {cs : Array Value} {ty : TypeId} {l : List AV}
    (hl : ∀ (i : Nat) (v : AV), l[i]? = some v → ∃ x, cs[i]? = some x ∧ VR ρ v x ∧ v.one = true) :
    Sim W0 (ρ.upd h.length ⟨w.heap.size, 0, cs.size⟩) (h ++ [⟨l, .own⟩]) (w.alloc (.cells cs ty)) ∧
      Grow ρ h w (ρ.upd h.length ⟨w.heap.size, 0, cs.size⟩) (h ++ [⟨l, .own⟩]) (w.alloc (.cells cs ty)) := by
  have hle := S.le_upd ⟨w.heap.size, 0, cs.size⟩
  have hW := S.below.size
  have hlast : (w.alloc (.cells cs ty)).heap[w.heap.size]? = some (.cells cs ty (0, 0)) := by
    show (w.heap.push _)[w.heap.size]? = _
    simp
  have hold : ∀ k, k < w.heap.size → (w.alloc (.cells cs ty)).heap[k]? = w.heap[k]? := fun k hk => Below.heap_alloc _ _ _ hk
  refine ⟨⟨S.below.alloc hW _, fun b n hb => ?_, fun b n blk hr hb hd => ?_, fun b b' n n' blk blk' hr hr' hb hb' hd hd' hm hc => ?_⟩, ?_⟩
  · by_cases e : b = h.length
    · subst e; rw [Rho.upd_same] at hb; cases hb; simp
    · rw [Rho.upd_ne _ _ e] at hb
      have := S.dom b n hb
      simp; omega
  · rcases get_append_cases hb with ⟨hlt, hb⟩ | ⟨e, e2⟩
    · rw [Rho.upd_ne _ _ (by omega)] at hr
      obtain ⟨cells, ty', fr, h1, h2, h3, h4⟩ := S.live b n blk hr hb hd
      refine ⟨cells, ty', fr, by rw [hold _ (S.dom b n hr).2]; exact h1, h2, fun i v hv => ?_, h4⟩
      obtain ⟨x, hx, hv', ho⟩ := h3 i v hv
      exact ⟨x, hx, hv'.mono hle, ho⟩
    · subst e; subst e2
      rw [Rho.upd_same] at hr; cases hr
      refine ⟨cs, ty, (0, 0), hlast, rfl, fun i v hv => ?_, fun _ => ⟨hW, rfl⟩⟩
      obtain ⟨x, hx, hv', ho⟩ := hl i v hv
      exact ⟨x, by simpa using hx, hv'.mono hle, ho⟩
  · rcases get_append_cases hb with ⟨hlt, hb⟩ | ⟨e, e2⟩ <;> rcases get_append_cases hb' with ⟨hlt', hb'⟩ | ⟨e', e2'⟩
    · rw [Rho.upd_ne _ _ (by omega)] at hr hr'
      exact S.inj b b' n n' blk blk' hr hr' hb hb' hd hd' hm hc
    · rw [Rho.upd_ne _ _ (by omega)] at hr
      subst e'; rw [Rho.upd_same] at hr'; cases hr'
      have := (S.dom b n hr).2
      simp at hc; omega
    · rw [Rho.upd_ne _ _ (by omega)] at hr'
      subst e; rw [Rho.upd_same] at hr; cases hr
      have := (S.dom b' n' hr').2
      simp at hc; omega
    · omega
  · refine ⟨hle, fun b hb => Rho.upd_ne _ _ (by omega), by simp, by rw [World.size_alloc]; omega, ⟨rfl, rfl, rfl⟩, fun c hc _ => hold c hc, fun b blk blk' hb hb' => ?_, fun b n blk' hb hr hb' _ => ?_⟩
    · rw [get_append_lt _ _ (at_lt hb), hb] at hb'; cases hb'
      exact ⟨id, fun _ => rfl, id⟩
    · rcases get_append_cases hb' with ⟨hlt, _⟩ | ⟨e, _⟩
      · omega
      · subst e; rw [Rho.upd_same] at hr; cases hr; exact .inl (Nat.le_refl _)

/-- A store into a block of the call's own. -/
theorem Sim.store (S : Sim W0 ρ h w) {b : Nat} {n : Ren} {blk : Blk} (hr : ρ b = some n) (hb : h[b]? = some blk) (ho : blk.md = .own) {cs : Array Value} (hs : cs.size = n.sz) {l : List AV}
    (hl : ∀ (i : Nat) (v : AV), l[i]? = some v → ∃ x, cs[n.sh + i]? = some x ∧ VR ρ v x ∧ v.one = true) :
    Sim W0 ρ (h.set b ⟨l, .own⟩) (w.setRow n.c cs) ∧ Grow ρ h w ρ (h.set b ⟨l, .own⟩) (w.setRow n.c cs) := by
  have hblt := at_lt hb
  obtain ⟨cells, ty, fr, h1, h2, h3, h4⟩ := S.live b n blk hr hb (by rw [ho]; decide)
  have hheap := setRow_heap w n.c cells cs ty fr h1
  refine ⟨⟨S.below.trans ⟨rfl, rfl, rfl, by rw [size_setRow]; exact Nat.le_refl _, fun k hk => setRow_other w n.c k cs ?_⟩, fun b' n' hb' => ?_, fun b' n' blk' hr' hb' hd' => ?_, fun b1 b2 n1 n2 k1 k2 hr1 hr2 hb1 hb2 hd1 hd2 hm hc => ?_⟩, ?_⟩
  · have := (h4 ho).1; omega
  · have := S.dom b' n' hb'; rw [size_setRow]; simpa using this
  · rcases get_set_cases hb' with ⟨e, e2⟩ | ⟨e, hb'⟩
    · subst e; subst e2
      rw [hr] at hr'; cases hr'
      exact ⟨cs, ty, fr, hheap, hs, hl, fun _ => h4 ho⟩
    · obtain ⟨cells', ty', fr', h1', h2', h3', h4'⟩ := S.live b' n' blk' hr' hb' hd'
      refine ⟨cells', ty', fr', ?_, h2', h3', h4'⟩
      rw [setRow_other w n.c n'.c cs fun ec => e (S.inj b' b n' n blk' blk hr' hr hb' hb hd' (by rw [ho]; decide) (.inr ho) ec)]
      exact h1'
  · have old : ∀ (x : Nat) (k : Blk), (h.set b ⟨l, .own⟩)[x]? = some k → k.md ≠ .dead → ∃ k0, h[x]? = some k0 ∧ k0.md ≠ .dead ∧ (k.md = .own → k0.md = .own) := fun x k hx hd => by
      rcases get_set_cases hx with ⟨e, _⟩ | ⟨_, hx⟩
      · subst e; exact ⟨blk, hb, by rw [ho]; decide, fun _ => ho⟩
      · exact ⟨k, hx, hd, id⟩
    obtain ⟨k1', hk1, hkd1, hko1⟩ := old b1 k1 hb1 hd1
    obtain ⟨k2', hk2, hkd2, hko2⟩ := old b2 k2 hb2 hd2
    exact S.inj b1 b2 n1 n2 k1' k2' hr1 hr2 hk1 hk2 hkd1 hkd2 (hm.imp hko1 hko2) hc
  · refine ⟨Rho.le_refl _, fun _ _ => rfl, by simp, by rw [size_setRow]; exact Nat.le_refl _, ⟨rfl, rfl, rfl⟩, fun c hc hn => setRow_other w n.c c cs fun e => hn b n blk hr hb ho e.symm, fun b' k k' hk hk' => ?_, fun b' n' k' hb' _ hk' _ => ?_⟩
    · rcases get_set_cases hk' with ⟨e, e2⟩ | ⟨_, hk'⟩
      · subst e; subst e2
        rw [hb] at hk; cases hk
        rw [ho]; simp
      · rw [hk] at hk'; cases hk'; exact ⟨id, fun _ => rfl, id⟩
    · have := at_lt hk'; simp at this; omega

/-- A block is given up. -/
theorem Sim.kill (S : Sim W0 ρ h w) {b : Nat} {blk : Blk} (hb : h[b]? = some blk) (ho : blk.md = .own) (l : List AV) :
    Sim W0 ρ (h.set b ⟨l, .dead⟩) w ∧ Grow ρ h w ρ (h.set b ⟨l, .dead⟩) w := by
  have hblt := at_lt hb
  refine ⟨⟨S.below, fun b' n' hb' => by simpa using S.dom b' n' hb', fun b' n' blk' hr' hb' hd' => ?_, fun b1 b2 n1 n2 k1 k2 hr1 hr2 hb1 hb2 hd1 hd2 hm hc => ?_⟩, ?_⟩
  · rcases get_set_cases hb' with ⟨e, e2⟩ | ⟨e, hb'⟩
    · subst e2; simp at hd'
    · exact S.live b' n' blk' hr' hb' hd'
  · rcases get_set_cases hb1 with ⟨_, e2⟩ | ⟨_, hb1⟩
    · subst e2; simp at hd1
    · rcases get_set_cases hb2 with ⟨_, e2⟩ | ⟨_, hb2⟩
      · subst e2; simp at hd2
      · exact S.inj b1 b2 n1 n2 k1 k2 hr1 hr2 hb1 hb2 hd1 hd2 hm hc
  · refine ⟨Rho.le_refl _, fun _ _ => rfl, by simp, Nat.le_refl _, ⟨rfl, rfl, rfl⟩, fun _ _ _ => rfl, fun b' k k' hk hk' => ?_, fun b' n' k' hb' _ hk' _ => ?_⟩
    · rcases get_set_cases hk' with ⟨e, e2⟩ | ⟨_, hk'⟩
      · subst e; subst e2
        rw [hb] at hk; cases hk
        rw [ho]; simp
      · rw [hk] at hk'; cases hk'; exact ⟨id, fun _ => rfl, id⟩
    · have := at_lt hk'; simp at this; omega

/-- A block of the call's own goes on under a new name, with other cells told. -/
theorem Sim.turn (S : Sim W0 ρ h w) {b : Nat} {n : Ren} {blk : Blk} (hr : ρ b = some n) (hb : h[b]? = some blk) (ho : blk.md = .own) {cs : Array Value} (hs : cs.size = n.sz) (sh : Nat) {l : List AV} (l0 : List AV)
    (hl : ∀ (i : Nat) (v : AV), l[i]? = some v → ∃ x, cs[sh + i]? = some x ∧ VR ρ v x ∧ v.one = true) :
    Sim W0 (ρ.upd h.length ⟨n.c, sh, n.sz⟩) (h.set b ⟨l0, .dead⟩ ++ [⟨l, .own⟩]) (w.setRow n.c cs) ∧
      Grow ρ h w (ρ.upd h.length ⟨n.c, sh, n.sz⟩) (h.set b ⟨l0, .dead⟩ ++ [⟨l, .own⟩]) (w.setRow n.c cs) := by
  have hblt := at_lt hb
  have hle := S.le_upd ⟨n.c, sh, n.sz⟩
  obtain ⟨cells, ty, fr, h1, h2, h3, h4⟩ := S.live b n blk hr hb (by rw [ho]; decide)
  have hheap := setRow_heap w n.c cells cs ty fr h1
  have hlen : (h.set b ⟨l0, .dead⟩).length = h.length := by simp
  refine ⟨⟨S.below.trans ⟨rfl, rfl, rfl, by rw [size_setRow]; exact Nat.le_refl _, fun k hk => setRow_other w n.c k cs ?_⟩, fun b' n' hb' => ?_, fun b' n' blk' hr' hb' hd' => ?_, fun b1 b2 n1 n2 k1 k2 hr1 hr2 hb1 hb2 hd1 hd2 hm hc => ?_⟩, ?_⟩
  · have := (h4 ho).1; omega
  · by_cases e : b' = h.length
    · subst e; rw [Rho.upd_same] at hb'; cases hb'
      have := (S.dom b n hr).2
      rw [size_setRow]; exact ⟨by simp, this⟩
    · rw [Rho.upd_ne _ _ e] at hb'
      have := S.dom b' n' hb'
      rw [size_setRow]; exact ⟨by simp; omega, this.2⟩
  · rcases get_append_cases hb' with ⟨hlt, hb'⟩ | ⟨e, e2⟩
    · rw [hlen] at hlt
      rcases get_set_cases hb' with ⟨_, e2⟩ | ⟨e, hb'⟩
      · subst e2; simp at hd'
      · rw [Rho.upd_ne _ _ (by omega)] at hr'
        obtain ⟨cells', ty', fr', h1', h2', h3', h4'⟩ := S.live b' n' blk' hr' hb' hd'
        refine ⟨cells', ty', fr', ?_, h2', fun i v hv => ?_, h4'⟩
        · rw [setRow_other w n.c n'.c cs fun ec => e (S.inj b' b n' n blk' blk hr' hr hb' hb hd' (by rw [ho]; decide) (.inr ho) ec)]
          exact h1'
        · obtain ⟨x, hx, hv', ho'⟩ := h3' i v hv
          exact ⟨x, hx, hv'.mono hle, ho'⟩
    · rw [hlen] at e
      subst e; subst e2
      rw [Rho.upd_same] at hr'; cases hr'
      refine ⟨cs, ty, fr, hheap, hs, fun i v hv => ?_, fun _ => h4 ho⟩
      obtain ⟨x, hx, hv', ho'⟩ := hl i v hv
      exact ⟨x, hx, hv'.mono hle, ho'⟩
  · have key : ∀ (x : Nat) (m : Ren) (k : Blk), (ρ.upd h.length ⟨n.c, sh, n.sz⟩) x = some m → (h.set b ⟨l0, .dead⟩ ++ [⟨l, .own⟩])[x]? = some k → k.md ≠ .dead →
        (x < h.length ∧ x ≠ b ∧ ρ x = some m ∧ h[x]? = some k) ∨ (x = h.length ∧ m.c = n.c) := fun x m k hx hk hd => by
      rcases get_append_cases hk with ⟨hlt, hk⟩ | ⟨e, e2⟩
      · rw [hlen] at hlt
        rcases get_set_cases hk with ⟨_, e2⟩ | ⟨e, hk⟩
        · subst e2; simp at hd
        · rw [Rho.upd_ne _ _ (by omega)] at hx
          exact .inl ⟨hlt, e, hx, hk⟩
      · rw [hlen] at e
        subst e; rw [Rho.upd_same] at hx; cases hx
        exact .inr ⟨rfl, rfl⟩
    rcases key b1 n1 k1 hr1 hb1 hd1 with ⟨hlt1, hne1, hr1, hb1⟩ | ⟨e1, c1⟩ <;> rcases key b2 n2 k2 hr2 hb2 hd2 with ⟨hlt2, hne2, hr2, hb2⟩ | ⟨e2, c2⟩
    · exact S.inj b1 b2 n1 n2 k1 k2 hr1 hr2 hb1 hb2 hd1 hd2 hm hc
    · exact absurd (S.inj b1 b n1 n k1 blk hr1 hr hb1 hb hd1 (by rw [ho]; decide) (.inr ho) (by rw [hc, c2])) hne1
    · exact absurd (S.inj b2 b n2 n k2 blk hr2 hr hb2 hb hd2 (by rw [ho]; decide) (.inr ho) (by rw [← hc, c1])) hne2
    · omega
  · refine ⟨hle, fun b' hb' => Rho.upd_ne _ _ (by omega), by simp, by rw [size_setRow]; exact Nat.le_refl _, ⟨rfl, rfl, rfl⟩, fun c hc hn => setRow_other w n.c c cs fun e => hn b n blk hr hb ho e.symm, fun b' k k' hk hk' => ?_, fun b' n' k' hb' hr' hk' hd' => ?_⟩
    · rcases get_append_cases hk' with ⟨_, hk'⟩ | ⟨e, _⟩
      · rcases get_set_cases hk' with ⟨e, e2⟩ | ⟨_, hk'⟩
        · subst e; subst e2
          rw [hb] at hk; cases hk
          rw [ho]; simp
        · rw [hk] at hk'; cases hk'; exact ⟨id, fun _ => rfl, id⟩
      · rw [hlen] at e; have := at_lt hk; omega
    · rcases get_append_cases hk' with ⟨hlt, _⟩ | ⟨e, _⟩
      · rw [hlen] at hlt; omega
      · rw [hlen] at e; subst e; rw [Rho.upd_same] at hr'; cases hr'
        exact .inr ⟨b, n, blk, hr, rfl, hb, ho⟩

/-- A cell read. -/
theorem Sim.read (S : Sim W0 ρ h w) {r : Ref} {a : Addr} {blk : Blk} {v : AV} (hr : RR ρ r a) (hb : h[r.b]? = some blk) (hd : blk.md ≠ .dead) (hv : blk.cells[r.o]? = some v) :
    ∃ x, w.cell? a = some x ∧ VR ρ v x ∧ v.one = true := by
  obtain ⟨n, hn, rfl⟩ := hr
  obtain ⟨cells, ty, fr, h1, h2, h3, h4⟩ := S.live r.b n blk hn hb hd
  obtain ⟨x, hx, hv', ho⟩ := h3 _ v hv
  exact ⟨x, by simp [World.cell?, h1, hx], hv', ho⟩

theorem RR.add {r : Ref} {a : Addr} (hr : RR ρ r a) (k : Nat) : RR ρ ⟨r.b, r.o + k⟩ (a.add k) := by
  obtain ⟨n, hn, rfl⟩ := hr
  exact ⟨n, hn, by rw [Addr.add_lit]; simp [Nat.add_assoc]⟩

/-- Some cells read. -/
theorem Sim.reads (S : Sim W0 ρ h w) {r : Ref} {a : Addr} {blk : Blk} (hr : RR ρ r a) (hb : h[r.b]? = some blk) (hd : blk.md ≠ .dead) (n : Nat) (hn : r.o + n ≤ blk.cells.length) :
    ∃ xs : List Value, xs.length = n ∧ VRs ρ ((blk.cells.drop r.o).take n) xs ∧ (∀ j x, xs[j]? = some x → w.cell? (a.add j) = some x) ∧ (∀ x ∈ xs, x.oneCell' = true) ∧
      (∀ v ∈ (blk.cells.drop r.o).take n, v.one = true) := by
  induction n generalizing r a with
  | zero => exact ⟨[], rfl, by simp [VRs], fun j x hx => by simp at hx, fun _ hx => (by cases hx), fun _ hx => (by simp at hx)⟩
  | succ n ih =>
    have hlt : r.o < blk.cells.length := by omega
    obtain ⟨x, hx, hv, ho⟩ := S.read hr hb hd (v := blk.cells[r.o]) (List.getElem?_eq_getElem hlt)
    obtain ⟨xs, e1, e2, e3, e4, e5⟩ := ih (r := ⟨r.b, r.o + 1⟩) (hr.add 1) hb (by show r.o + 1 + n ≤ _; omega)
    have hdrop : blk.cells.drop r.o = blk.cells[r.o] :: blk.cells.drop (r.o + 1) := List.drop_eq_getElem_cons hlt
    refine ⟨x :: xs, by simp [e1], ?_, fun j y hy => ?_, fun y hy => ?_, fun v hv' => ?_⟩
    · rw [hdrop, List.take_succ_cons]
      simp only [VRs]
      exact ⟨hv, e2⟩
    · cases j with
      | zero => simp at hy; subst hy; rw [Addr.add_zero']; exact hx
      | succ j =>
        simp at hy
        have := e3 j y hy
        obtain ⟨n', _, rfl⟩ := hr
        simp only [Addr.add_lit, Nat.add_assoc] at this ⊢
        rw [Nat.add_comm j 1]; exact this
    · simp at hy
      rcases hy with rfl | hy
      · rw [hv.oneCell]; exact ho
      · exact e4 y hy
    · rw [hdrop, List.take_succ_cons] at hv'
      simp at hv'
      rcases hv' with rfl | hv'
      · exact ho
      · exact e5 v (by simpa using hv')
end Go.V
