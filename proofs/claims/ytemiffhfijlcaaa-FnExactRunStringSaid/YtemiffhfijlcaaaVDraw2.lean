import Derived.Test.YtemiffhfijlcaaaVDraw
set_option linter.unusedSimpArgs false
set_option linter.unusedVariables false
set_option linter.unusedSectionVars false
/-! A region that draws its order: the whole. -/
namespace Go.V
open Go Go.RowKit

/-- The states on the way. -/
theorem trace_exists (C : Caller) : ∀ (as : List AOper) (e : Env) (h : H) (e' : Env) (h' : H) (m : Nat), evalOps C as e h = some (e', h') → quietDraw C m as e h →
    ∃ (es : Nat → Env) (hs : Nat → H) (vs : Nat → AV), es 0 = e ∧ hs 0 = h ∧ es as.length = e' ∧ hs as.length = h' ∧
      (∀ i o, as[i]? = some o → evalOp C o (es i) (hs i) = some (vs i, hs (i + 1)) ∧ es (i + 1) = (es i).put o.dst (vs i)) ∧ (∀ i, i < m → i < as.length → hs i <+: hs (i + 1))
  | [], e, h, e', h', m, he, _ => by
    simp only [evalOps, Option.some.injEq, Prod.mk.injEq] at he
    obtain ⟨rfl, rfl⟩ := he
    exact ⟨fun _ => e, fun _ => h, fun _ => .nilI, rfl, rfl, rfl, rfl, fun i o hi => by simp at hi, fun i _ hi => by simp at hi⟩
  | o :: as, e, h, e', h', m, he, hq => by
    simp only [evalOps] at he
    split at he
    · cases he
    · rename_i v h1 h1e
      have hq' : (0 < m → h <+: h1) ∧ quietDraw C (m - 1) as (e.put o.dst v) h1 := by
        cases m with
        | zero => exact ⟨fun hc => absurd hc (by omega), by simp [quietDraw]⟩
        | succ m =>
          simp only [quietDraw, h1e] at hq
          exact ⟨fun _ => hq.1, by simpa using hq.2⟩
      obtain ⟨es, hs, vs, e1, e2, e3, e4, e5, e6⟩ := trace_exists C as _ h1 e' h' (m - 1) he hq'.2
      refine ⟨fun | 0 => e | n + 1 => es n, fun | 0 => h | n + 1 => hs n, fun | 0 => v | n + 1 => vs n, rfl, rfl, e3, e4, fun i o' hi => ?_, fun i him hil => ?_⟩
      · cases i with
        | zero =>
          simp at hi; subst hi
          simp only [e1, e2]
          exact ⟨h1e, trivial⟩
        | succ i => simpa using e5 i o' (by simpa using hi)
      · cases i with
        | zero => simp only [e2]; exact hq'.1 him
        | succ i => exact e6 i (by omega) (by simpa using hil)

theorem Env.keep_get (e : Env) : ∀ (l : List Nat) (t : Nat), t ∈ l → (e.keep l).get t = e.get t
  | [], t, h => by cases h
  | n :: ns, t, h => by
    by_cases hn : n = t
    · subst hn
      simp only [Env.keep]
      cases hg : e.get n with
      | some v => simp [Env.get]
      | none =>
        simp only
        by_cases hm : n ∈ ns
        · rw [Env.keep_get e ns n hm, hg]
        · have : ∀ (l : List Nat), n ∉ l → (e.keep l).get n = none := by
            intro l
            induction l with
            | nil => intro _; rfl
            | cons k ks ih =>
              intro hk
              simp at hk
              simp only [Env.keep]
              split
              · simp only [Env.get]; rw [if_neg (fun e => hk.1 e.symm)]; exact ih hk.2
              · exact ih hk.2
          exact this ns hm
    · have ht : t ∈ ns := by
        cases h with
        | head => exact absurd rfl hn
        | tail _ h => exact h
      simp only [Env.keep]
      split
      · simp only [Env.get, if_neg hn]
        exact Env.keep_get e ns t ht
      · exact Env.keep_get e ns t ht
theorem Env.get_keep_mem (e : Env) : ∀ (l : List Nat) (t : Nat) (v : AV), (e.keep l).get t = some v → t ∈ l
  | [], t, v, h => by simp [Env.keep, Env.get] at h
  | n :: ns, t, v, h => by
    simp only [Env.keep] at h
    split at h
    · simp only [Env.get] at h
      split at h
      · rename_i e; subst e; exact List.mem_cons_self
      · exact List.mem_cons_of_mem _ (Env.get_keep_mem e ns t v h)
    · exact List.mem_cons_of_mem _ (Env.get_keep_mem e ns t v h)

theorem vals_keep (e : Env) (l : List Nat) : ∀ (xs : List AOpd), (∀ t ∈ xs.flatMap AOpd.tmps, t ∈ l) → vals (e.keep l) xs = vals e xs
  | [], _ => rfl
  | x :: xs, h => by
    have hx : x.val (e.keep l) = x.val e := by
      cases x with
      | t n => exact Env.keep_get e l n (h n (by simp [AOpd.tmps]))
      | c v => rfl
    simp only [vals, hx, vals_keep e l xs fun t ht => h t (by simp at ht ⊢; exact .inr ht)]
theorem evalOp_keep (C : Caller) (o : AOper) (e : Env) (h : H) : evalOp C o (e.keep o.looks) h = evalOp C o e h := by
  have hw : o.wanted (e.keep o.looks) = o.wanted e := by
    unfold AOper.wanted
    cases hg : o.guard with
    | none => rfl
    | some gw =>
      obtain ⟨t, want⟩ := gw
      simp only
      rw [Env.keep_get e o.looks t (by simp [AOper.looks, hg])]
  unfold evalOp
  rw [hw, vals_keep e o.looks o.xs fun t ht => by simp only [AOper.looks]; exact List.mem_append_left _ ht]

theorem mem_union : ∀ (xs s : List Nat) (x : Nat), x ∈ union s xs → x ∈ s ∨ x ∈ xs
  | [], s, x, h => .inl h
  | y :: ys, s, x, h => by
    rcases mem_union ys _ x h with h | h
    · split at h
      · exact .inl h
      · cases h with
        | head => exact .inr List.mem_cons_self
        | tail _ h => exact .inl h
    · exact .inr (List.mem_cons_of_mem _ h)
theorem mem_closStep (acc : List (List Nat)) : ∀ (ks s : List Nat) (x : Nat), x ∈ closStep acc s ks → x ∈ s ∨ x ∈ ks ∨ ∃ k ∈ ks, x ∈ (acc[k]?).getD []
  | [], s, x, h => .inl h
  | k :: ks, s, x, h => by
    rcases mem_closStep acc ks _ x h with h | h | ⟨k', h1, h2⟩
    · rcases mem_union _ _ _ h with h | h
      · exact .inl h
      · cases h with
        | head => exact .inr (.inl List.mem_cons_self)
        | tail _ h => exact .inr (.inr ⟨k, List.mem_cons_self, h⟩)
    · exact .inr (.inl (List.mem_cons_of_mem _ h))
    · exact .inr (.inr ⟨k', List.mem_cons_of_mem _ h1, h2⟩)
theorem clos_listed {L : Nat → Prop} : ∀ (g acc : List (List Nat)), (∀ j, L (acc.length + j) → ∀ k ∈ (g[j]?).getD [], L k) → (∀ j, ∀ i ∈ (acc[j]?).getD [], L j → L i) → ∀ j, ∀ i ∈ ((clos acc g)[j]?).getD [], L j → L i
  | [], acc, _, hacc => hacc
  | ks :: g, acc, hg, hacc => by
    refine clos_listed g _ (fun j hj k hk => ?_) fun j i hi hj => ?_
    · have := hg (j + 1) (by simpa [Nat.add_assoc, Nat.add_comm 1 j] using hj) k (by simpa using hk)
      exact this
    · by_cases hlt : j < acc.length
      · rw [List.getElem?_append_left hlt] at hi
        exact hacc j i hi hj
      · by_cases heq : j = acc.length
        · subst heq
          simp only [List.getElem?_append_right (Nat.le_refl _), Nat.sub_self, List.getElem?_cons_zero, Option.getD_some] at hi
          have hks : ∀ k ∈ ks, L k := fun k hk => hg 0 (by simpa using hj) k (by simpa using hk)
          rcases mem_closStep acc ks [] i hi with h | h | ⟨k, h1, h2⟩
          · cases h
          · exact hks i h
          · exact hacc k i h2 (hks k h1)
        · rw [List.getElem?_eq_none (by simp; omega)] at hi
          cases hi
/-- After, by way of grounds: what is listed is closed under it. -/
theorem after_listed {g : List (List Nat)} {L : Nat → Prop} (hL : ∀ j, L j → ∀ k ∈ (g[j]?).getD [], L k) (j i : Nat) (h : isAfter (clos [] g) j i = true) (hj : L j) : L i :=
  clos_listed g [] (fun j hj k hk => hL j (by simpa using hj) k hk) (fun j i hi => by simp at hi) j i (by simpa [isAfter] using h) hj

/-- A slot in the middle of the way: the last that wrote it, or the beginning. -/
theorem es_get {as : List AOper} {es : Nat → Env} {vs : Nat → AV} (hstep : ∀ i o, as[i]? = some o → es (i + 1) = (es i).put o.dst (vs i)) : ∀ (i : Nat), i ≤ as.length → ∀ t v, (es i).get t = some v →
    (∃ j o, j < i ∧ as[j]? = some o ∧ o.dst = some t ∧ v = vs j) ∨ ((es 0).get t = some v ∧ ∀ j o, j < i → as[j]? = some o → o.dst ≠ some t)
  | 0, _, t, v, h => .inr ⟨h, fun j o hj => by omega⟩
  | i + 1, hi, t, v, h => by
    have ho : as[i]? = some as[i] := List.getElem?_eq_getElem (by omega)
    rw [hstep i _ ho] at h
    have rest : (es i).get t = some v → as[i].dst ≠ some t → (∃ j o, j < i + 1 ∧ as[j]? = some o ∧ o.dst = some t ∧ v = vs j) ∨ ((es 0).get t = some v ∧ ∀ j o, j < i + 1 → as[j]? = some o → o.dst ≠ some t) := fun h hne => by
      rcases es_get hstep i (by omega) t v h with ⟨j, o, hj, h1, h2, h3⟩ | ⟨h1, h2⟩
      · exact .inl ⟨j, o, by omega, h1, h2, h3⟩
      · refine .inr ⟨h1, fun j o hj hjo => ?_⟩
        by_cases hji : j = i
        · subst hji; rw [ho] at hjo; cases hjo; exact hne
        · exact h2 j o (by omega) hjo
    cases hd : as[i].dst with
    | none => rw [hd] at h; exact rest h (by rw [hd]; simp)
    | some d =>
      rw [hd] at h
      simp only [Env.put, Env.get] at h
      split at h
      · rename_i e; subst e; cases h
        exact .inl ⟨i, _, by omega, ho, hd, rfl⟩
      · rename_i hne
        exact rest h (by rw [hd]; simp [hne])

theorem hs_mono {hs : Nat → H} {m : Nat} (hq : ∀ i, i < m → hs i <+: hs (i + 1)) : ∀ (j i : Nat), i ≤ j → j ≤ m → hs i <+: hs j
  | 0, i, hi, _ => by have : i = 0 := by omega
                      subst this; exact List.prefix_refl _
  | j + 1, i, hi, hj => by
    by_cases h : i = j + 1
    · subst h; exact List.prefix_refl _
    · exact (hs_mono hq j i (by omega) (by omega)).trans (hq j (by omega))

section
variable {P : Program} {W0 : World} {nt : Nat}

/-- What stands while the first m operations go by, in whatever order. L: what has gone by. -/
structure Mid (W0 : World) (ρ : Rho) (h : H) (w0 : World) (nt : Nat) (as : List AOper) (m : Nat) (e : Env) (hs : Nat → H) (vs : Nat → AV) (L : Nat → Prop) (ρS : Rho) (a : Act) (w : World) : Prop where
  sim : ∀ k, k ≤ m → Sim W0 (ρS.res (hs k).length) (hs k) w
  grow : Grow ρ h w0 ρS (hs m) w
  dom : ∀ b n, ρS b = some n → b < h.length ∨ ∃ i, i < m ∧ L i ∧ (hs i).length ≤ b ∧ b < (hs (i + 1)).length
  dst : ∀ i o d, i < m → L i → as[i]? = some o → o.dst = some d → ∃ x, a.tmps[d]? = some x ∧ VR (ρS.res (hs (i + 1)).length) (vs i) x
  old : ∀ t v, e.get t = some v → (∀ i o, i < m → L i → as[i]? = some o → o.dst ≠ some t) → ∃ x, a.tmps[t]? = some x ∧ VR ρ v x
  size : nt ≤ a.tmps.size
  defers : a.defers = []

theorem Mid.take {ρ : Rho} {h : H} {w0 : World} {as : List AOper} {m : Nat} {e : Env} {hs : Nat → H} {vs : Nat → AV} {L L' : Nat → Prop} {ρS : Rho} {a : Act} {w : World} (M : Mid W0 ρ h w0 nt as m e hs vs L ρS a w)
    (S0 : Sim W0 ρ h w0) (h0 : h.length ≤ (hs 0).length) (hown : ∀ k, k ≤ m → ∀ b blk, b < h.length → (hs k)[b]? = some blk → blk.md = .own → ∃ blk0, h[b]? = some blk0 ∧ blk0.md = .own) (hq : ∀ i, i < m → hs i <+: hs (i + 1)) {i : Nat} {o : AOper} (hi : i < m) (hno : ¬ L i) (ho : as[i]? = some o) (hL : ∀ j, L' j ↔ L j ∨ j = i)
    (hdis : ∀ j o', j < m → j ≠ i → as[j]? = some o' → ∀ d, o.dst = some d → o'.dst ≠ some d) (hdn : ∀ d, o.dst = some d → d < nt)
    {x : Value} {w' : World} {ρ2 : Rho} (hv : VR ρ2 (vs i) x) (S2 : Sim W0 ρ2 (hs (i + 1)) w') (G : Grow (ρS.res (hs i).length) (hs i) w ρ2 (hs (i + 1)) w') :
    Mid W0 ρ h w0 nt as m e hs vs L' (ρS.mix ρ2 (hs i).length (hs (i + 1)).length) (a.put o.dst x) w' := by
  have mono := hs_mono hq
  have hlen : ∀ {p q : Nat}, p ≤ q → q ≤ m → (hs p).length ≤ (hs q).length := fun hp hq' => (mono _ _ hp hq').length_le
  have hfree : ∀ b, (hs i).length ≤ b → b < (hs (i + 1)).length → ρS b = none := fun b h1 h2 => by
    cases hb : ρS b with
    | none => rfl
    | some n =>
      rcases M.dom b n hb with h3 | ⟨j, hj, hLj, h3, h4⟩
      · have := hlen (Nat.zero_le i) (by omega)
        omega
      · have hji : j = i := by
          rcases Nat.lt_trichotomy j i with hlt | heq | hgt
          · have := hlen (p := j + 1) (q := i) (by omega) (by omega); omega
          · exact heq
          · have := hlen (p := i + 1) (q := j) (by omega) (by omega); omega
        subst hji
        exact absurd hLj hno
  refine ⟨fun k hk => ?_, ?_, fun b n hb => ?_, fun j o' d hj hLj ho' hd => ?_, fun t v ht hnone => ?_, ?_, M.defers |> fun hd => by cases o.dst <;> exact hd⟩
  · by_cases hki : k ≤ i
    · exact Sim.step_old (mono i k hki (by omega)) (hq i hi) (M.sim k hk) S2 G
    · exact Sim.step_new (hq i hi) (mono k (i + 1) (by omega) hk) (M.sim k hk) S2 G hfree
  · exact Grow.step (S0 := S0) (Nat.le_trans h0 (hlen (Nat.zero_le i) (by omega))) (hown i (by omega)) (hq i hi) (mono m (i + 1) (by omega) (Nat.le_refl _)) M.grow G
  · by_cases h3 : (hs i).length ≤ b ∧ b < (hs (i + 1)).length
    · exact .inr ⟨i, hi, (hL i).2 (.inr rfl), h3.1, h3.2⟩
    · rw [Rho.mix_out h3] at hb
      rcases M.dom b n hb with h4 | ⟨j, hj, hLj, h4, h5⟩
      · exact .inl h4
      · exact .inr ⟨j, hj, (hL j).2 (.inl hLj), h4, h5⟩
  · by_cases hji : j = i
    · subst hji
      rw [ho] at ho'; cases ho'
      rw [hd]
      have hlt := Nat.lt_of_lt_of_le (hdn d hd) M.size
      exact ⟨x, by simp [Act.put, hlt], hv.mono (mix_ge S2 G (Nat.le_refl _))⟩
    · have hLj' : L j := ((hL j).1 hLj).resolve_right hji
      obtain ⟨y, hy, hr⟩ := M.dst j o' d hj hLj' ho' hd
      refine ⟨y, ?_, hr.mono fun b n hb => ?_⟩
      · cases hod : o.dst with
        | none => exact hy
        | some d' =>
          have hne : d' ≠ d := fun e => hdis j o' hj hji ho' d' hod (by rw [hd, e])
          simpa [Act.put, Array.getElem?_setIfInBounds_ne hne] using hy
      · obtain ⟨h1, h2⟩ := Rho.res_some hb
        rw [Rho.res_lt h1, Rho.mix_out fun hc => by rw [hfree b hc.1 hc.2] at h2; cases h2]
        exact h2
  · have hne : o.dst ≠ some t := hnone i o hi ((hL i).2 (.inr rfl)) ho
    obtain ⟨y, hy, hr⟩ := M.old t v ht fun j o' hj hLj ho' => hnone j o' hj ((hL j).2 (.inl hLj)) ho'
    refine ⟨y, ?_, hr⟩
    cases hod : o.dst with
    | none => exact hy
    | some d' =>
      have hne' : d' ≠ t := fun e => hne (by rw [hod, e])
      simpa [Act.put, Array.getElem?_setIfInBounds_ne hne'] using hy
  · cases o.dst with
    | none => exact M.size
    | some d => simpa [Act.put] using M.size

/-- The heaps, one block of them turned. -/
def turned (hs : Nat → H) (p B : Nat) (Y : Blk) (i : Nat) : H := if i ≤ p then (hs i).set B Y else hs i
theorem pre_set {h k : H} (hp : h <+: k) (B : Nat) (Y : Blk) : h.set B Y <+: k.set B Y := by
  obtain ⟨t, rfl⟩ := hp
  by_cases hb : B < h.length
  · rw [List.set_append_left _ _ hb]; exact List.prefix_append _ _
  · rw [List.set_eq_of_length_le (by omega), List.set_append_right _ _ (by omega)]; exact List.prefix_append _ _
/-- The operation that turns a block. -/
theorem Mid.turn {ρ : Rho} {h : H} {w0 : World} {as : List AOper} {p : Nat} {e : Env} {hs : Nat → H} {vs : Nat → AV} {L L' : Nat → Prop} {ρS : Rho} {a : Act} {w : World} (M : Mid W0 ρ h w0 nt as p e hs vs L ρS a w)
    (h0 : hs 0 = h) (hq : ∀ i, i < p → hs i <+: hs (i + 1)) {B : Nat} {Y : Blk} (hset : hs (p + 1) = (hs p).set B Y) (hY : lims h.length Y.cells = true) {o : AOper} (ho : as[p]? = some o) (hL : ∀ j, L' j ↔ L j ∨ j = p) (hno : ∀ j, p ≤ j → ¬ L j)
    (hdis : ∀ j o', j < p + 1 → j ≠ p → as[j]? = some o' → ∀ d, o.dst = some d → o'.dst ≠ some d) (hdn : ∀ d, o.dst = some d → d < nt)
    {x : Value} {w' : World} {ρ2 : Rho} (hv : VR ρ2 (vs p) x) (S2 : Sim W0 ρ2 (hs (p + 1)) w') (G : Grow (ρS.res (hs p).length) (hs p) w ρ2 (hs (p + 1)) w') :
    Mid W0 ρ h w0 nt as (p + 1) e (turned hs p B Y) vs L' ρ2 (a.put o.dst x) w' := by
  have mono := hs_mono hq
  have hlen : ∀ {i j : Nat}, i ≤ j → j ≤ p → (hs i).length ≤ (hs j).length := fun hi hj => (mono _ _ hi hj).length_le
  have tle : ∀ i, i ≤ p → turned hs p B Y i = (hs i).set B Y := fun i hi => by simp [turned, hi]
  have tlast : turned hs p B Y (p + 1) = hs (p + 1) := by unfold turned; rw [if_neg (by omega)]
  have tlen : ∀ i, i ≤ p → (turned hs p B Y i).length = (hs i).length := fun i hi => by rw [tle i hi]; simp
  have slen : (hs (p + 1)).length = (hs p).length := by rw [hset]; simp
  have hh : ∀ i, i ≤ p → h.length ≤ (hs i).length := fun i hi => by have := hlen (Nat.zero_le i) hi; rw [h0] at this; exact this
  -- the renaming is as it was
  have domS : ∀ b n, ρS b = some n → b < (hs p).length := fun b n hb => by
    rcases M.dom b n hb with h1 | ⟨i, hi, _, _, h2⟩
    · exact Nat.lt_of_lt_of_le h1 (hh p (Nat.le_refl _))
    · exact Nat.lt_of_lt_of_le h2 (hlen (by omega) (Nat.le_refl _))
  have same : ∀ b n, ρ2 b = some n ↔ ρS b = some n := fun b n => by
    constructor
    · intro hb
      have hlt := (S2.dom b n hb).1
      rw [slen] at hlt
      have := G.keep b hlt
      rw [Rho.res_lt hlt] at this
      rw [← this]; exact hb
    · intro hb
      exact G.le b n (by rw [Rho.res_lt (domS b n hb)]; exact hb)
  have res : ∀ k, (ρS.res k).le (ρ2.res k) := fun k b n hb => by
    obtain ⟨h1, h2⟩ := Rho.res_some hb
    rw [Rho.res_lt h1]; exact (same b n).2 h2
  have resAll : ρS.res (hs p).length = ρS := by
    funext b
    unfold Rho.res
    split
    · rfl
    · rename_i hb
      cases e : ρS b with
      | none => rfl
      | some n => exact absurd (domS b n e) hb
  have res2All : ρ2.res (hs (p + 1)).length = ρ2 := by
    funext b
    unfold Rho.res
    split
    · rfl
    · rename_i hb
      cases e : ρ2 b with
      | none => rfl
      | some n => exact absurd (S2.dom b n e).1 hb
  refine ⟨fun k hk => ?_, ?_, fun b n hb => ?_, fun j o' d hj hLj ho' hd => ?_, fun t v ht hnone => ?_, ?_, M.defers |> fun hd => by cases o.dst <;> exact hd⟩
  · by_cases hkp : k ≤ p
    · have hpre : turned hs p B Y k <+: hs (p + 1) := by rw [tle k hkp, hset]; exact pre_set (mono p k hkp (Nat.le_refl _)) B Y
      refine ⟨S2.below, fun b n hb => ?_, fun b n blk hb hbk hd => ?_, fun b b' n n' blk blk' hb hb' hbk hbk' hd hd' hm hc => ?_⟩
      · obtain ⟨h1, h2⟩ := Rho.res_some hb
        exact ⟨h1, (S2.dom b n h2).2⟩
      · obtain ⟨h1, h2⟩ := Rho.res_some hb
        obtain ⟨cells, ty, fr, e1, e2, e3, e4⟩ := S2.live b n blk h2 (pre_get' hpre hbk) hd
        refine ⟨cells, ty, fr, e1, e2, fun i v hv => ?_, e4⟩
        obtain ⟨y, hy, hr, ho1⟩ := e3 i v hv
        refine ⟨y, hy, ?_, ho1⟩
        rw [tlen k hkp] at h1 ⊢
        rw [tle k hkp] at hbk
        by_cases hbB : b = B
        · subst hbB
          rw [List.getElem?_set_self h1] at hbk
          cases hbk
          exact (VR.cut (lims_get hv hY) hr).mono (Rho.res_le ρ2 (hh k hkp))
        · rw [List.getElem?_set_ne (fun e => hbB e.symm)] at hbk
          have hS : ρS b = some n := (same b n).1 h2
          obtain ⟨cells', ty', fr', e1', e2', e3', e4'⟩ := (M.sim k hkp).live b n blk (by rw [Rho.res_lt h1]; exact hS) hbk hd
          obtain ⟨y', _, hr', _⟩ := e3' i v hv
          exact (VR.down (fun b n hb => (Rho.res_some (res _ b n hb)).2) hr' hr).mono (res _)
      · obtain ⟨_, h2⟩ := Rho.res_some hb
        obtain ⟨_, h2'⟩ := Rho.res_some hb'
        exact S2.inj b b' n n' blk blk' h2 h2' (pre_get' hpre hbk) (pre_get' hpre hbk') hd hd' hm hc
    · have : k = p + 1 := by omega
      subst this
      rw [tlast, res2All]; exact S2
  · rw [tlast]
    rw [resAll] at G
    exact M.grow.trans G
  · rcases M.dom b n ((same b n).1 hb) with h1 | ⟨i, hi, hLi, h1, h2⟩
    · exact .inl h1
    · exact .inr ⟨i, by omega, (hL i).2 (.inl hLi), by rw [tlen i (by omega)]; exact h1, by rw [tlen (i + 1) (by omega)]; exact h2⟩
  · by_cases hji : j = p
    · subst hji
      rw [ho] at ho'; cases ho'
      rw [hd]
      have hlt := Nat.lt_of_lt_of_le (hdn d hd) M.size
      rw [tlast, res2All]
      exact ⟨x, by simp [Act.put, hlt], hv⟩
    · have hLj' : L j := ((hL j).1 hLj).resolve_right hji
      obtain ⟨y, hy, hr⟩ := M.dst j o' d (by omega) hLj' ho' hd
      refine ⟨y, ?_, by rw [tlen (j + 1) (by omega)]; exact hr.mono (res _)⟩
      cases hod : o.dst with
      | none => exact hy
      | some d' =>
        have hne : d' ≠ d := fun e => hdis j o' hj hji ho' d' hod (by rw [hd, e])
        simpa [Act.put, Array.getElem?_setIfInBounds_ne hne] using hy
  · have hne : o.dst ≠ some t := hnone p o (by omega) ((hL p).2 (.inr rfl)) ho
    obtain ⟨y, hy, hr⟩ := M.old t v ht fun j o' hj hLj ho' => hnone j o' (by omega) ((hL j).2 (.inl hLj)) ho'
    refine ⟨y, ?_, hr⟩
    cases hod : o.dst with
    | none => exact hy
    | some d' =>
      have hne' : d' ≠ t := fun e => hne (by rw [hod, e])
      simpa [Act.put, Array.getElem?_setIfInBounds_ne hne'] using hy
  · cases o.dst with
    | none => exact M.size
    | some d => simpa [Act.put] using M.size
end
end Go.V
