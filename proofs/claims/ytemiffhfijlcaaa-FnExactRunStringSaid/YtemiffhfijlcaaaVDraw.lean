import Derived.Test.YtemiffhfijlcaaaVMain
set_option linter.unusedSimpArgs false
set_option linter.unusedVariables false
set_option linter.unusedSectionVars false
/-! A region that draws its order. -/
namespace Go.V
open Go Go.RowKit

mutual
/-- What is told under a smaller renaming is told under it of every value. -/
theorem VR.down {ρ ρ' : Rho} (hle : ρ.le ρ') : ∀ {v : AV} {x y : Value}, VR ρ v x → VR ρ' v y → VR ρ v y
  | .b _, x, y, _, k => by cases y <;> simp_all [VR]
  | .i _ _, x, y, _, k => by cases y <;> simp_all [VR]
  | .f _ _, x, y, _, k => by cases y <;> simp_all [VR]
  | .s _, x, y, _, k => by cases y <;> simp_all [VR]
  | .p none, x, y, _, k => by rw [k.inv_pn]; simp [VR]
  | .p (some r), x, y, hx, k => by
    obtain ⟨a, rfl, n, hn, rfl⟩ := hx.inv_p
    obtain ⟨b, rfl, m, hm, rfl⟩ := k.inv_p
    rw [hle _ _ hn] at hm
    cases hm
    exact VR.mk_p ⟨n, hn, rfl⟩
  | .sl none len cap gr, x, y, _, k => by rw [k.inv_sln]; simp [VR]
  | .sl (some r) len cap none, x, y, hx, k => by
    obtain ⟨a, rfl, n, hn, rfl⟩ := hx.inv_sle
    obtain ⟨b, rfl, m, hm, rfl⟩ := k.inv_sle
    rw [hle _ _ hn] at hm
    cases hm
    exact VR.mk_sl ⟨n, hn, rfl⟩
  | .sl (some r) len cap (some es), x, y, hx, k => by
    obtain ⟨a, c, rfl, ⟨n, hn, rfl⟩, _⟩ := hx.inv_slg
    obtain ⟨b, c', rfl, ⟨m, hm, rfl⟩, h1, h2, h3⟩ := k.inv_slg
    have h4 := h3 m hm
    rw [hle _ _ hn] at hm
    cases hm
    exact VR.mk_slg hn rfl h1 h2 h4
  | .fn f caps, x, y, hx, k => by
    obtain ⟨cs, rfl, h1⟩ := hx.inv_fn
    obtain ⟨ds, rfl, h2⟩ := k.inv_fn
    simp only [VR]
    exact ⟨trivial, trivial, VRs.down hle h1 h2⟩
  | .nilF, x, y, _, k => by cases y <;> simp_all [VR]
  | .nilI, x, y, _, k => by cases y <;> simp_all [VR]
  | .ifc t v, x, y, hx, k => by
    obtain ⟨x', rfl, h1⟩ := hx.inv_ifc
    obtain ⟨y', rfl, h2⟩ := k.inv_ifc
    simp only [VR]
    exact ⟨trivial, VR.down hle h1 h2⟩
  | .agg cs, x, y, hx, k => by
    obtain ⟨xs, rfl, h1⟩ := hx.inv_agg
    obtain ⟨ys, rfl, h2⟩ := k.inv_agg
    simp only [VR]
    exact VRs.down hle h1 h2
  | .tup cs, x, y, hx, k => by
    obtain ⟨xs, rfl, h1⟩ := hx.inv_tup
    obtain ⟨ys, rfl, h2⟩ := k.inv_tup
    simp only [VR]
    exact VRs.down hle h1 h2
theorem VRs.down {ρ ρ' : Rho} (hle : ρ.le ρ') : ∀ {vs : List AV} {xs ys : List Value}, VRs ρ vs xs → VRs ρ' vs ys → VRs ρ vs ys
  | [], xs, ys, _, k => by rw [k.inv_nil]; simp [VRs]
  | v :: vs, xs, ys, hx, k => by
    obtain ⟨x, xs', rfl, h1, h2⟩ := hx.inv_cons
    obtain ⟨y, ys', rfl, k1, k2⟩ := k.inv_cons
    simp only [VRs]
    exact ⟨VR.down hle h1 k1, VRs.down hle h2 k2⟩
end

/-- The renaming of the first n blocks alone. -/
def Rho.res (ρ : Rho) (n : Nat) : Rho := fun b => if b < n then ρ b else none
theorem Rho.res_some {ρ : Rho} {n b : Nat} {m : Ren} (h : ρ.res n b = some m) : b < n ∧ ρ b = some m := by
  unfold Rho.res at h
  split at h
  · exact ⟨by assumption, h⟩
  · cases h
theorem Rho.res_lt {ρ : Rho} {n b : Nat} (h : b < n) : ρ.res n b = ρ b := by simp [Rho.res, h]
theorem Rho.res_le (ρ : Rho) {n m : Nat} (h : n ≤ m) : (ρ.res n).le (ρ.res m) := fun b k hb => by
  obtain ⟨h1, h2⟩ := Rho.res_some hb
  rw [Rho.res_lt (by omega)]; exact h2

mutual
/-- A value without places of the blocks from n on is told by the renaming of the first n. -/
theorem VR.cut {ρ : Rho} {n : Nat} : ∀ {v : AV} {x : Value}, v.lim n = true → VR ρ v x → VR (ρ.res n) v x
  | .b _, x, _, k => by cases x <;> simp_all [VR]
  | .i _ _, x, _, k => by cases x <;> simp_all [VR]
  | .f _ _, x, _, k => by cases x <;> simp_all [VR]
  | .s _, x, _, k => by cases x <;> simp_all [VR]
  | .p none, x, _, k => by rw [k.inv_pn]; simp [VR]
  | .p (some r), x, hb, k => by
    obtain ⟨a, rfl, m, hm, rfl⟩ := k.inv_p
    simp only [AV.lim, decide_eq_true_eq] at hb
    exact VR.mk_p ⟨m, by rw [Rho.res_lt hb]; exact hm, rfl⟩
  | .sl none len cap gr, x, _, k => by rw [k.inv_sln]; simp [VR]
  | .sl (some r) len cap none, x, hb, k => by
    obtain ⟨a, rfl, m, hm, rfl⟩ := k.inv_sle
    simp only [AV.lim, decide_eq_true_eq] at hb
    exact VR.mk_sl ⟨m, by rw [Rho.res_lt hb]; exact hm, rfl⟩
  | .sl (some r) len cap (some es), x, hb, k => by
    obtain ⟨a, c, rfl, ⟨m, hm, rfl⟩, h1, h2, h3⟩ := k.inv_slg
    simp only [AV.lim, decide_eq_true_eq] at hb
    exact VR.mk_slg (by rw [Rho.res_lt hb]; exact hm) rfl h1 h2 (h3 m hm)
  | .fn f caps, x, hb, k => by
    obtain ⟨cs, rfl, h1⟩ := k.inv_fn
    simp only [AV.lim] at hb
    simp only [VR]
    exact ⟨trivial, trivial, VRs.cut hb h1⟩
  | .nilF, x, _, k => by cases x <;> simp_all [VR]
  | .nilI, x, _, k => by cases x <;> simp_all [VR]
  | .ifc t v, x, hb, k => by
    obtain ⟨x', rfl, h1⟩ := k.inv_ifc
    simp only [AV.lim] at hb
    simp only [VR]
    exact ⟨trivial, VR.cut hb h1⟩
  | .agg cs, x, hb, k => by
    obtain ⟨xs, rfl, h1⟩ := k.inv_agg
    simp only [AV.lim] at hb
    simp only [VR]
    exact VRs.cut hb h1
  | .tup cs, x, hb, k => by
    obtain ⟨xs, rfl, h1⟩ := k.inv_tup
    simp only [AV.lim] at hb
    simp only [VR]
    exact VRs.cut hb h1
theorem VRs.cut {ρ : Rho} {n : Nat} : ∀ {vs : List AV} {xs : List Value}, lims n vs = true → VRs ρ vs xs → VRs (ρ.res n) vs xs
  | [], xs, _, k => by rw [k.inv_nil]; simp [VRs]
  | v :: vs, xs, hb, k => by
    obtain ⟨x, xs', rfl, h1, h2⟩ := k.inv_cons
    simp only [lims, Bool.and_eq_true] at hb
    simp only [VRs]
    exact ⟨VR.cut hb.1 h1, VRs.cut hb.2 h2⟩
end

theorem lims_get {n : Nat} : ∀ {vs : List AV} {i : Nat} {v : AV}, vs[i]? = some v → lims n vs = true → v.lim n = true
  | [], i, v, h, _ => by simp at h
  | u :: vs, 0, v, h, k => by simp at h; subst h; simp [lims] at k; exact k.1
  | u :: vs, i + 1, v, h, k => by simp at h; simp [lims] at k; exact lims_get h k.2
/-- Two renamings, the second for the blocks from p to q. -/
def Rho.mix (ρ ρ2 : Rho) (p q : Nat) : Rho := fun b => if p ≤ b ∧ b < q then ρ2 b else ρ b
theorem Rho.mix_in {ρ ρ2 : Rho} {p q b : Nat} (h : p ≤ b ∧ b < q) : ρ.mix ρ2 p q b = ρ2 b := by simp [Rho.mix, h]
theorem Rho.mix_out {ρ ρ2 : Rho} {p q b : Nat} (h : ¬ (p ≤ b ∧ b < q)) : ρ.mix ρ2 p q b = ρ b := by simp only [Rho.mix, if_neg h]

theorem pre_get {h k : H} (hp : h <+: k) {b : Nat} (hb : b < h.length) : k[b]? = h[b]? := by
  obtain ⟨t, rfl⟩ := hp
  exact List.getElem?_append_left hb
theorem pre_get' {h k : H} (hp : h <+: k) {b : Nat} {blk : Blk} (hb : h[b]? = some blk) : k[b]? = some blk := by rw [pre_get hp (at_lt hb)]; exact hb

section
variable {W0 : World} {ρS ρ2 : Rho} {hi hj hk : H} {w w' : World}

/-- One operation more: the blocks before it. -/
theorem Sim.step_old (hki : hk <+: hi) (hij : hi <+: hj) (Sk : Sim W0 (ρS.res hk.length) hk w) (S2 : Sim W0 ρ2 hj w') (G : Grow (ρS.res hi.length) hi w ρ2 hj w') : Sim W0 ((ρS.mix ρ2 hi.length hj.length).res hk.length) hk w' := by
  have hl := hki.length_le
  have e : (ρS.mix ρ2 hi.length hj.length).res hk.length = ρS.res hk.length := by
    funext b
    unfold Rho.res
    split
    · exact Rho.mix_out (by omega)
    · rfl
  rw [e]
  have hle : (ρS.res hk.length).le ρ2 := Rho.le_trans (Rho.res_le ρS hl) G.le
  refine ⟨S2.below, fun b n hb => ⟨(Sk.dom b n hb).1, Nat.lt_of_lt_of_le (Sk.dom b n hb).2 G.size⟩, fun b n blk hb hbk hd => ?_, Sk.inj⟩
  obtain ⟨cells, ty, fr, h1, h2, h3, h4⟩ := S2.live b n blk (hle b n hb) (pre_get' hij (pre_get' hki hbk)) hd
  obtain ⟨cells', ty', fr', h1', h2', h3', h4'⟩ := Sk.live b n blk hb hbk hd
  refine ⟨cells, ty, fr, h1, h2, fun i v hv => ?_, h4⟩
  obtain ⟨x, hx, hr, ho⟩ := h3 i v hv
  obtain ⟨x', hx', hr', _⟩ := h3' i v hv
  exact ⟨x, hx, VR.down hle hr' hr, ho⟩

theorem mix_ge (S2 : Sim W0 ρ2 hj w') (G : Grow (ρS.res hi.length) hi w ρ2 hj w') {n : Nat} (hn : hj.length ≤ n) : ρ2.le ((ρS.mix ρ2 hi.length hj.length).res n) := fun b m hb => by
  have hlt := (S2.dom b m hb).1
  rw [Rho.res_lt (by omega)]
  by_cases h1 : hi.length ≤ b
  · rw [Rho.mix_in ⟨h1, hlt⟩]; exact hb
  · rw [Rho.mix_out (by omega)]
    have h2 := G.keep b (by omega)
    rw [Rho.res_lt (by omega)] at h2
    rw [← h2]; exact hb

/-- One operation more: it, and the blocks behind it. -/
theorem Sim.step_new (hij : hi <+: hj) (hjk : hj <+: hk) (Sk : Sim W0 (ρS.res hk.length) hk w) (S2 : Sim W0 ρ2 hj w') (G : Grow (ρS.res hi.length) hi w ρ2 hj w')
    (hfree : ∀ b, hi.length ≤ b → b < hj.length → ρS b = none) : Sim W0 ((ρS.mix ρ2 hi.length hj.length).res hk.length) hk w' := by
  have hl := hjk.length_le
  have hli := hij.length_le
  have up := mix_ge S2 G hl
  have up2 : (ρS.res hk.length).le ((ρS.mix ρ2 hi.length hj.length).res hk.length) := fun b m hb => by
    obtain ⟨h1, h2⟩ := Rho.res_some hb
    rw [Rho.res_lt h1, Rho.mix_out fun hc => by rw [hfree b hc.1 hc.2] at h2; cases h2]
    exact h2
  -- what the new renaming tells
  have tell : ∀ b n, ((ρS.mix ρ2 hi.length hj.length).res hk.length) b = some n → (b < hj.length ∧ ρ2 b = some n) ∨ (hj.length ≤ b ∧ (ρS.res hk.length) b = some n) := fun b n hb => by
    obtain ⟨h1, h2⟩ := Rho.res_some hb
    by_cases h3 : b < hj.length
    · left
      refine ⟨h3, ?_⟩
      by_cases h4 : hi.length ≤ b
      · rwa [Rho.mix_in ⟨h4, h3⟩] at h2
      · rw [Rho.mix_out (by omega)] at h2
        exact G.le b n (by rw [Rho.res_lt (by omega)]; exact h2)
    · right
      rw [Rho.mix_out (by omega)] at h2
      exact ⟨by omega, by rw [Rho.res_lt h1]; exact h2⟩
  have back : ∀ b n, b < hi.length → ρ2 b = some n → (ρS.res hk.length) b = some n := fun b n hb h2 => by
    have h3 := G.keep b hb
    rw [Rho.res_lt hb] at h3
    rw [Rho.res_lt (by omega), ← h3]; exact h2
  -- a new block does not lie where one behind lies
  have apart : ∀ b b' n n' blk blk', b < hj.length → ρ2 b = some n → hk[b]? = some blk → blk.md ≠ .dead → hj.length ≤ b' → (ρS.res hk.length) b' = some n' → hk[b']? = some blk' → blk'.md ≠ .dead → (blk.md = .own ∨ blk'.md = .own) → n.c = n'.c → False := by
    intro b b' n n' blk blk' hb h2 hbk hd hb' h2' hbk' hd' hm hc
    by_cases h4 : b < hi.length
    · have := Sk.inj b b' n n' blk blk' (back b n h4 h2) h2' hbk hbk' hd hd' hm hc
      omega
    · have hbj : hj[b]? = some blk := by rw [← pre_get hjk hb]; exact hbk
      rcases G.fresh b n blk (by omega) h2 hbj hd with hf | ⟨b0, n0, blk0, hr0, hc0, hb0, ho0⟩
      · have := (Sk.dom b' n' h2').2
        omega
      · have hb0k := pre_get' hjk (pre_get' hij hb0)
        have hr0k : (ρS.res hk.length) b0 = some n0 := Rho.res_le ρS (by omega) b0 n0 hr0
        have := Sk.inj b0 b' n0 n' blk0 blk' hr0k h2' hb0k hbk' (by rw [ho0]; decide) hd' (.inl ho0) (hc0.trans hc)
        have := at_lt hb0
        omega
  refine ⟨S2.below, fun b n hb => ?_, fun b n blk hb hbk hd => ?_, fun b b' n n' blk blk' hr hr' hbk hbk' hd hd' hm hc => ?_⟩
  · rcases tell b n hb with ⟨h1, h2⟩ | ⟨h1, h2⟩
    · have := S2.dom b n h2
      exact ⟨by omega, this.2⟩
    · have := Sk.dom b n h2
      exact ⟨this.1, Nat.lt_of_lt_of_le this.2 G.size⟩
  · rcases tell b n hb with ⟨h1, h2⟩ | ⟨h1, h2⟩
    · have hbj : hj[b]? = some blk := by rw [← pre_get hjk h1]; exact hbk
      obtain ⟨cells, ty, fr, e1, e2, e3, e4⟩ := S2.live b n blk h2 hbj hd
      refine ⟨cells, ty, fr, e1, e2, fun i v hv => ?_, e4⟩
      obtain ⟨x, hx, hr, ho⟩ := e3 i v hv
      exact ⟨x, hx, hr.mono up, ho⟩
    · obtain ⟨cells, ty, fr, e1, e2, e3, e4⟩ := Sk.live b n blk h2 hbk hd
      refine ⟨cells, ty, fr, ?_, e2, fun i v hv => ?_, e4⟩
      · rw [G.same n.c (Sk.dom b n h2).2 fun b0 n0 blk0 hr0 hb0 ho0 hc => ?_]
        · exact e1
        · have hr0k : (ρS.res hk.length) b0 = some n0 := Rho.res_le ρS (by omega) b0 n0 hr0
          have := Sk.inj b0 b n0 n blk0 blk hr0k h2 (pre_get' hjk (pre_get' hij hb0)) hbk (by rw [ho0]; decide) hd (.inl ho0) hc
          have := at_lt hb0
          omega
      · obtain ⟨x, hx, hr, ho⟩ := e3 i v hv
        exact ⟨x, hx, hr.mono up2, ho⟩
  · rcases tell b n hr with ⟨h1, h2⟩ | ⟨h1, h2⟩ <;> rcases tell b' n' hr' with ⟨h1', h2'⟩ | ⟨h1', h2'⟩
    · exact S2.inj b b' n n' blk blk' h2 h2' (by rw [← pre_get hjk h1]; exact hbk) (by rw [← pre_get hjk h1']; exact hbk') hd hd' hm hc
    · exact (apart b b' n n' blk blk' h1 h2 hbk hd h1' h2' hbk' hd' hm hc).elim
    · exact (apart b' b n' n blk' blk h1' h2' hbk' hd' h1 h2 hbk hd hm.symm hc.symm).elim
    · exact Sk.inj b b' n n' blk blk' h2 h2' hbk hbk' hd hd' hm hc

/-- What has turned since the region began. -/
theorem Grow.step {ρ : Rho} {h : H} {w0 : World} {S0 : Sim W0 ρ h w0} (hl : h.length ≤ hi.length) (hown : ∀ b blk, b < h.length → hi[b]? = some blk → blk.md = .own → ∃ blk0, h[b]? = some blk0 ∧ blk0.md = .own) (hij : hi <+: hj) (hjk : hj <+: hk) (G0 : Grow ρ h w0 ρS hk w) (G : Grow (ρS.res hi.length) hi w ρ2 hj w') :
    Grow ρ h w0 (ρS.mix ρ2 hi.length hj.length) hk w' := by
  refine ⟨fun b n hb => ?_, fun b hb => ?_, G0.len, Nat.le_trans G0.size G.size, ⟨G.streams.1.trans G0.streams.1, G.streams.2.1.trans G0.streams.2.1, G.streams.2.2.trans G0.streams.2.2⟩, fun c hc hn => ?_, G0.modes, fun b n blk hb hr hbk hd => ?_⟩
  · have := (S0.dom b n hb).1
    rw [Rho.mix_out (by omega)]
    exact G0.le b n hb
  · rw [Rho.mix_out (by omega)]
    exact G0.keep b hb
  · rw [G.same c (Nat.lt_of_lt_of_le hc G0.size) fun b0 n0 blk0 hr0 hb0 ho0 hcc => ?_, G0.same c hc hn]
    obtain ⟨h1, h2⟩ := Rho.res_some hr0
    have hb0k := pre_get' hjk (pre_get' hij hb0)
    by_cases h3 : b0 < h.length
    · obtain ⟨blk1, hb1, ho1⟩ := hown b0 blk0 h3 hb0 ho0
      exact hn b0 n0 blk1 (by rw [← G0.keep b0 h3]; exact h2) hb1 ho1 hcc
    · rcases G0.fresh b0 n0 blk0 (by omega) h2 hb0k (by rw [ho0]; decide) with hf | ⟨b1, n1, blk1, hr1, hc1, hb1, ho1⟩
      · omega
      · exact hn b1 n1 blk1 hr1 hb1 ho1 (hc1.trans hcc)
  · by_cases h3 : hi.length ≤ b ∧ b < hj.length
    · rw [Rho.mix_in h3] at hr
      have hbj : hj[b]? = some blk := by rw [← pre_get hjk h3.2]; exact hbk
      rcases G.fresh b n blk h3.1 hr hbj hd with hf | ⟨b0, n0, blk0, hr0, hc0, hb0, ho0⟩
      · exact .inl (Nat.le_trans G0.size hf)
      · obtain ⟨h1, h2⟩ := Rho.res_some hr0
        have hb0k := pre_get' hjk (pre_get' hij hb0)
        by_cases h4 : b0 < h.length
        · obtain ⟨blk1, hb1, ho1⟩ := hown b0 blk0 h4 hb0 ho0
          exact .inr ⟨b0, n0, blk1, by rw [← G0.keep b0 h4]; exact h2, hc0, hb1, ho1⟩
        · rcases G0.fresh b0 n0 blk0 (by omega) h2 hb0k (by rw [ho0]; decide) with hf | ⟨b1, n1, blk1, hr1, hc1, hb1, ho1⟩
          · exact .inl (by omega)
          · exact .inr ⟨b1, n1, blk1, hr1, hc1.trans hc0, hb1, ho1⟩
    · rw [Rho.mix_out h3] at hr
      exact G0.fresh b n blk hb hr hbk hd
end
end Go.V
