import Derived.Test.YtemiffhfijlcaaaVDraw2
set_option linter.unusedSimpArgs false
set_option linter.unusedVariables false
set_option linter.unusedSectionVars false
/-! A region that draws its order: sound. -/
namespace Go.V
open Go Go.RowKit

theorem drawOk_spec {g cl : List (List Nat)} {as : List AOper} {m : Nat} (hok : drawOk g cl as m = true) :
    m ≤ as.length ∧ g.length = as.length ∧ (∀ j k, j < as.length → k ∈ (g[j]?).getD [] → k < j) ∧
    (∀ i j a b, i < m → j < m → i ≠ j → as[i]? = some a → as[j]? = some b → ∀ d, a.dst = some d → b.dst ≠ some d) ∧
    (∀ i j a b d, i < m → j < m → i ≠ j → as[i]? = some a → as[j]? = some b → b.dst = some d → d ∈ a.looks → (j < i → isAfter cl i j = true) ∧ (i < j → isAfter cl j i = true)) ∧
    (∀ i j, i < j → j < as.length → m ≤ j → isAfter cl j i = true) := by
  simp only [drawOk, Bool.and_eq_true, decide_eq_true_eq, List.all_eq_true, List.mem_range] at hok
  obtain ⟨⟨h1, h2⟩, h3⟩ := hok
  have key : ∀ i j a b, as[i]? = some a → as[j]? = some b → _ := fun i j a b ha hb => by
    have hi := (List.getElem?_eq_some_iff.1 ha).1
    have hj := (List.getElem?_eq_some_iff.1 hb).1
    have := (h3 j hj).2 i hi
    rw [ha, hb] at this
    exact this
  refine ⟨h1, h2, fun j k hj hk => (h3 j hj).1 k hk, fun i j a b hi hj hij ha hb d hd hd' => ?_, fun i j a b d hi hj hij ha hb hd hl => ?_, fun i j hij hj hm => ?_⟩
  · have := key i j a b ha hb
    simp only [hi, hj, and_self, if_true, Bool.and_eq_true, Bool.or_eq_true, beq_iff_eq, hij, false_or] at this
    have := this.1
    simp [hd, hd'] at this
  · have := key i j a b ha hb
    simp only [hi, hj, and_self, if_true, Bool.and_eq_true, Bool.or_eq_true, beq_iff_eq, hij, false_or] at this
    have := this.2
    simp only [hd] at this
    have hc : a.looks.contains d = true := by simpa using hl
    simp only [hc, Bool.not_true, Bool.false_or] at this
    constructor
    · intro hlt; simpa [hlt] using this
    · intro hlt; simpa [show ¬ j < i by omega] using this
  · have hi : i < as.length := by omega
    have := key i j as[i] as[j] (List.getElem?_eq_getElem hi) (List.getElem?_eq_getElem hj)
    simp only [show ¬ (i < m ∧ j < m) by omega, if_false, hij, if_true] at this
    exact this

/-- How many are not listed. -/
def unl (listed : Array Bool) : Nat := listed.toList.countP (!·)
theorem unl_set {listed : Array Bool} {i : Nat} (hi : listed.getD i true = false) : unl (listed.setIfInBounds i true) + 1 = unl listed := by
  have hlt : i < listed.size := by
    rcases Nat.lt_or_ge i listed.size with h | h
    · exact h
    · simp [Array.getElem?_eq_none h] at hi
  have hv : listed.toList[i]'(by simpa using hlt) = false := by simpa [hlt] using hi
  unfold unl
  rw [Array.toList_setIfInBounds, List.countP_set (by simpa using hlt), hv]
  have : 0 < listed.toList.countP (!·) := List.countP_pos_iff.2 ⟨false, by rw [← hv]; exact List.getElem_mem _, rfl⟩
  simp only [Bool.not_false, if_true, Bool.not_true, Bool.false_eq_true, if_false]
  omega

theorem no_replicate (n i : Nat) : ¬ (Array.replicate n false).getD i false = true := by
  simp [Array.getElem?_replicate]
  split <;> rfl
theorem Sim.ext {W0 : World} {ρ : Rho} {h k : H} {w : World} (S : Sim W0 ρ h w) (hp : h <+: k) : Sim W0 ρ k w :=
  ⟨S.below, fun b n hb => ⟨Nat.lt_of_lt_of_le (S.dom b n hb).1 hp.length_le, (S.dom b n hb).2⟩,
    fun b n blk hb hk hd => S.live b n blk hb (by rw [← pre_get hp (S.dom b n hb).1]; exact hk) hd,
    fun b b' n n' blk blk' hb hb' hk hk' hd hd' hm hc => S.inj b b' n n' blk blk' hb hb' (by rw [← pre_get hp (S.dom b n hb).1]; exact hk) (by rw [← pre_get hp (S.dom b' n' hb').1]; exact hk') hd hd' hm hc⟩
theorem Grow.ext {W0 : World} {ρ : Rho} {h k : H} {w : World} (S : Sim W0 ρ h w) (hp : h <+: k) : Grow ρ h w ρ k w :=
  ⟨Rho.le_refl ρ, fun _ _ => rfl, hp.length_le, Nat.le_refl _, ⟨rfl, rfl, rfl⟩, fun _ _ _ => rfl,
    fun b blk blk' h1 h2 => by rw [pre_get' hp h1] at h2; cases h2; exact ⟨id, fun _ => rfl, id⟩,
    fun b n blk' hb hr _ _ => by have := (S.dom b n hr).1; omega⟩

section
variable {P : Program} {W0 : World} {nt : Nat}

theorem draw_sound {C : Caller} (hC : CallerOk P C) (hmix : P.follows .mixedOrders = true) {id : Nat} {ops : Array Oper} {as : List AOper} {m : Nat} (hc : compOpers P nt ops ops.toList = some as) (hok : drawOk (grounds ops.toList) (clos [] (grounds ops.toList)) as m = true)
    {e e' : Env} {h h' : H} {ρ : Rho} {a : Act} {w : World} (hqd : quietDraw C m as e h) (he : evalOps C as e h = some (e', h')) (E : ER ρ nt e a) (S : Sim W0 ρ h w) {Q : Exit → Act → World → Prop}
    (hQ : ∀ a' w' ρ', ER ρ' nt e' a' → Sim W0 ρ' h' w' → Grow ρ h w ρ' h' w' → Q .normal a' w') : (Code.region id ops true).wp P Q a w := by
  obtain ⟨hml, hgl, hgb, hdis, hlook, htail⟩ := drawOk_spec hok
  obtain ⟨hlen, hget⟩ := compOpers_get hc
  have hN : as.length = ops.size := by rw [hlen]; simp
  obtain ⟨es, hs, vs, e0, h0, eN, hNN, hstep, hq'⟩ := trace_exists C as e h e' h' m he hqd
  have hq : ∀ i, i < m → hs i <+: hs (i + 1) := fun i hi => hq' i hi (by omega)
  have hes : ∀ i o, as[i]? = some o → es (i + 1) = (es i).put o.dst (vs i) := fun i o hi => (hstep i o hi).2
  refine wp_region_any hmix ?_
  have S1 : Sim W0 ρ h (w.drewN 1) := S.drewN 1
  have hGd := Grow.drewN ρ h w 1
  show wpAny P .any ops Q ops.size (Array.replicate ops.size false) a (w.drewN 1)
  -- what is known of an operation
  have oper : ∀ i, i < ops.size → ∃ o ao, ops[i]? = some o ∧ as[i]? = some ao ∧ compOper P nt ops o = some ao ∧ ao.dst = o.dst ∧ (∀ d, o.dst = some d → d < nt) := fun i hi => by
    obtain ⟨ao, h1, h2⟩ := hget i ops[i] (by rw [Array.getElem?_toList]; exact Array.getElem?_eq_getElem hi)
    obtain ⟨h3, h4⟩ := compOper_dst h2
    exact ⟨ops[i], ao, Array.getElem?_eq_getElem hi, h1, h2, h3, h4⟩
  let g := grounds ops.toList
  have hgr : ∀ (j : Nat) (o : Oper), ops[j]? = some o → (g[j]?).getD [] = (o.after.toList.filter (Region.binds .any ·)).map (·.on) := fun j o hj => by
    have : ops.toList[j]? = some o := by rw [Array.getElem?_toList]; exact hj
    simp [g, grounds, this]
  -- the two states
  let L := fun (listed : Array Bool) (i : Nat) => listed.getD i false = true
  let st := fun (listed : Array Bool) (a : Act) (w' : World) =>
    (∃ ρS, Mid W0 ρ h (w.drewN 1) nt as m e hs vs (L listed) ρS a w' ∧ ∀ i, m ≤ i → ¬ L listed i) ∨
    (∃ k ρ', m ≤ k ∧ k ≤ ops.size ∧ (∀ i, L listed i ↔ i < k) ∧ ER ρ' nt (es k) a ∧ Sim W0 ρ' (hs k) w' ∧ Grow ρ h (w.drewN 1) ρ' (hs k) w')
  -- all of the first m listed: the second state
  have turn : ∀ (listed : Array Bool) (a : Act) (w' : World) (ρS : Rho), Mid W0 ρ h (w.drewN 1) nt as m e hs vs (L listed) ρS a w' → (∀ i, i < m → L listed i) →
      ER ρS nt (es m) a ∧ Sim W0 ρS (hs m) w' ∧ Grow ρ h (w.drewN 1) ρS (hs m) w' := by
    intro listed a w' ρS M hall
    have hres : ρS.res (hs m).length = ρS := by
      funext b
      unfold Rho.res
      split
      · rfl
      · rename_i hb
        cases hb' : ρS b with
        | none => rfl
        | some n =>
          rcases M.dom b n hb' with h1 | ⟨i, hi, _, _, h2⟩
          · have := (hs_mono hq m 0 (by omega) (Nat.le_refl _)).length_le
            rw [h0] at this; omega
          · have := (hs_mono hq m (i + 1) (by omega) (Nat.le_refl _)).length_le
            omega
    have hsim := M.sim m (Nat.le_refl _)
    rw [hres] at hsim
    refine ⟨⟨fun t v ht => ?_, M.size, M.defers⟩, hsim, M.grow⟩
    rcases es_get hes m (by omega) t v ht with ⟨j, o, hj, h1, h2, rfl⟩ | ⟨h1, h2⟩
    · obtain ⟨x, hx, hr⟩ := M.dst j o t hj (hall j hj) h1 h2
      exact ⟨x, hx, hr.mono fun b n hb => (Rho.res_some hb).2⟩
    · rw [e0] at h1
      obtain ⟨x, hx, hr⟩ := M.old t v h1 fun i o hi _ ho => h2 i o hi ho
      exact ⟨x, hx, hr.mono M.grow.le⟩
  have hset : ∀ (listed : Array Bool) (i : Nat), i < listed.size → ∀ j, L (listed.setIfInBounds i true) j ↔ L listed j ∨ j = i := by
    intro listed i hi j
    simp only [L]
    by_cases hji : j = i
    · subst hji; simp [hi]
    · rw [getD_set_ne false (fun e => hji e.symm)]; simp [hji]
  -- nothing ready: the end
  have fin : ∀ (listed : Array Bool) (a : Act) (w' : World), listed.size = ops.size → st listed a w' → (∀ i, i < ops.size → L listed i) → Q .normal a w' := by
    intro listed a w' hsz hst hall
    rcases hst with ⟨ρS, M, hnone⟩ | ⟨k, ρ', hk1, hk2, hk3, E', S', G'⟩
    · have hmN : m = ops.size := by
        rcases Nat.lt_or_ge m ops.size with h1 | h1
        · exact absurd (hall m h1) (hnone m (Nat.le_refl _))
        · omega
      obtain ⟨E', S', G'⟩ := turn listed a w' ρS M fun i hi => hall i (by omega)
      rw [show m = as.length by omega] at E' S' G'
      rw [eN] at E'
      rw [hNN] at S' G'
      exact hQ a w' ρS E' S' (hGd.trans G')
    · have hkN : k = ops.size := by
        rcases Nat.lt_or_ge k ops.size with h1 | h1
        · have := (hk3 k).1 (hall k h1); omega
        · omega
      rw [hkN, ← hN] at E' S' G'
      rw [eN] at E'
      rw [hNN] at S' G'
      exact hQ a w' ρ' E' S' (hGd.trans G')
  have main : ∀ (fuel : Nat) (listed : Array Bool) (a : Act) (w' : World), listed.size = ops.size → (∀ j, L listed j → ∀ k ∈ (g[j]?).getD [], L listed k) → unl listed ≤ fuel → st listed a w' → wpAny P .any ops Q fuel listed a w' := by
    intro fuel
    have allOf : ∀ (listed : Array Bool), listed.size = ops.size → Region.ready .any ops listed = [] → ∀ i, i < ops.size → L listed i := by
      intro listed hsz hr i
      induction i using Nat.strongRecOn with
      | _ i ih =>
        intro hi
        cases hl : listed.getD i false with
        | true => exact hl
        | false =>
          exfalso
          obtain ⟨o, ao, ho, _⟩ := oper i hi
          have : i ∈ Region.ready .any ops listed := by
            refine mem_ready.2 ⟨?_, o, ho, fun ed hed hb => ?_⟩
            · have hlt : i < listed.size := by omega
              simpa [hlt] using hl
            · have hk : ed.on ∈ (g[i]?).getD [] := by
                rw [hgr i o ho]
                exact List.mem_map.2 ⟨ed, List.mem_filter.2 ⟨by simpa using hed, hb⟩, rfl⟩
              have hlt := hgb i ed.on (by omega) hk
              exact ih ed.on hlt (by omega)
          rw [hr] at this
          cases this
    induction fuel with
    | zero =>
      intro listed a w' hsz hcl hun hst
      have hr : Region.ready .any ops listed = [] := by
        cases hr : Region.ready .any ops listed with
        | nil => rfl
        | cons i l =>
          have hi : i ∈ Region.ready .any ops listed := by rw [hr]; exact List.mem_cons_self
          have := unl_set (mem_ready.1 hi).1
          omega
      exact ⟨hr, fin listed a w' hsz hst (allOf listed hsz hr)⟩
    | succ fuel ih =>
      intro listed a w' hsz hcl hun hst
      refine ⟨fun hr => fin listed a w' hsz hst (allOf listed hsz hr), fun i hi => ?_⟩
      obtain ⟨hil, o, ho, hafter⟩ := mem_ready.1 hi
      have hilt : i < ops.size := (Array.getElem?_eq_some_iff.1 ho).1
      have hunl := unl_set hil
      have hnot : ¬ L listed i := by
        have hlt : i < listed.size := by omega
        simp only [L]
        simp [hlt] at hil ⊢
        exact hil
      obtain ⟨o', ao, ho', hao, hco, hdst, hdn⟩ := oper i hilt
      rw [ho] at ho'; cases ho'
      have hcl' : ∀ j, L (listed.setIfInBounds i true) j → ∀ k ∈ (g[j]?).getD [], L (listed.setIfInBounds i true) k := by
        intro j hj k hk
        rw [hset listed i (by omega)] at hj ⊢
        rcases hj with hj | rfl
        · exact .inl (hcl j hj k hk)
        · left
          rw [hgr j o ho] at hk
          obtain ⟨ed, hed, rfl⟩ := List.mem_map.1 hk
          obtain ⟨h1, h2⟩ := List.mem_filter.1 hed
          exact hafter ed (by simpa using h1) h2
      have before : ∀ j, j ≠ i → isAfter (clos [] g) i j = true → L listed j := fun j hj haf => by
        have := after_listed hcl' i j haf ((hset listed i (by omega) i).2 (.inr rfl))
        exact ((hset listed i (by omega) j).1 this).resolve_right hj
      obtain ⟨hev, hput⟩ := hstep i ao hao
      -- in the text's order, behind all
      have seq : ∀ (ρ' : Rho), m ≤ i → (∀ j, L listed j ↔ j < i) → ER ρ' nt (es i) a → Sim W0 ρ' (hs i) w' → Grow ρ h (w.drewN 1) ρ' (hs i) w' → wpOp P ops Q i (wpAny P .any ops Q fuel (listed.setIfInBounds i true)) a w' := by
        intro ρ' hmi hL E' S' G'
        refine oper_sound hC ho hco hev E' S' fun x w2 ρ2 hv S2 G2 => ?_
        refine ih _ _ _ (by simpa using hsz) hcl' (by omega) (.inr ⟨i + 1, ρ2, by omega, by omega, fun j => ?_, ?_, S2, G'.trans G2⟩)
        · rw [hset listed i (by omega), hL]; omega
        · rw [hput, hdst]
          exact (E'.mono G2.le).put _ hdn hv
      rcases hst with ⟨ρS, M, hnone⟩ | ⟨k, ρ', hk1, hk2, hk3, E', S', G'⟩
      · by_cases him : i < m
        · have hev' : evalOp C ao ((es i).keep ao.looks) (hs i) = some (vs i, hs (i + 1)) := by rw [evalOp_keep]; exact hev
          have hE : ER (ρS.res (hs i).length) nt ((es i).keep ao.looks) a := by
            refine ⟨fun t v ht => ?_, M.size, M.defers⟩
            have hmem := Env.get_keep_mem _ _ _ _ ht
            have hval := Env.get_keep _ _ _ _ ht
            rcases es_get hes i (by omega) t v hval with ⟨j, oj, hj, h1, h2, rfl⟩ | ⟨h1, h2⟩
            · have hLj := before j (by omega) ((hlook i j ao oj t him (by omega) (by omega) hao h1 h2 hmem).1 hj)
              obtain ⟨x, hx, hr⟩ := M.dst j oj t (by omega) hLj h1 h2
              exact ⟨x, hx, hr.mono (Rho.res_le ρS (hs_mono hq i (j + 1) (by omega) (by omega)).length_le)⟩
            · rw [e0] at h1
              obtain ⟨x, hx, hr⟩ := M.old t v h1 fun k ok hk hLk hok' hd => by
                rcases Nat.lt_trichotomy k i with hlt | heq | hgt
                · exact h2 k ok hlt hok' hd
                · subst heq; exact hnot hLk
                · have haf := (hlook i k ao ok t him hk (by omega) hao hok' hd hmem).2 hgt
                  exact hnot (after_listed hcl k i haf hLk)
              refine ⟨x, hx, hr.mono fun b n hb => ?_⟩
              have hbl := (S.dom b n hb).1
              have := (hs_mono hq i 0 (by omega) (by omega)).length_le
              rw [h0] at this
              rw [Rho.res_lt (by omega)]
              exact M.grow.le b n hb
          refine oper_sound hC ho hco hev' hE (M.sim i (by omega)) fun x w2 ρ2 hv S2 G2 => ?_
          refine ih _ _ _ (by simpa using hsz) hcl' (by omega) (.inl ⟨ρS.mix ρ2 (hs i).length (hs (i + 1)).length, ?_, fun j hj hLj => ?_⟩)
          · rw [← hdst]
            exact M.take S1 (by rw [h0]; exact Nat.le_refl _) (fun k hk b blk hb hbk ho => ⟨blk, by rw [← pre_get (show h <+: hs k by rw [← h0]; exact hs_mono hq k 0 (by omega) hk) hb]; exact hbk, ho⟩) hq him hnot hao (hset listed i (by omega)) (fun j oj hj hji hoj d hd => hdis i j ao oj him hj (fun e => hji e.symm) hao hoj d hd) (by rw [hdst]; exact hdn) hv S2 G2
          · rcases (hset listed i (by omega) j).1 hLj with h1 | h1
            · exact hnone j hj h1
            · omega
        · have hall : ∀ j, j < i → L listed j := fun j hj => before j (by omega) (htail j i hj (by omega) (by omega))
          have him' : i = m := by
            rcases Nat.lt_or_ge m i with h1 | h1
            · exact absurd (hall m h1) (hnone m (Nat.le_refl _))
            · omega
          obtain ⟨E', S', G'⟩ := turn listed a w' ρS M fun j hj => hall j (by omega)
          subst him'
          refine seq ρS (Nat.le_refl _) (fun j => ⟨fun hj => ?_, hall j⟩) E' S' G'
          rcases Nat.lt_or_ge j i with h1 | h1
          · exact h1
          · exact absurd hj (hnone j h1)
      · have hki : k ≤ i := by
          rcases Nat.lt_or_ge i k with h1 | h1
          · exact absurd ((hk3 i).2 h1) hnot
          · exact h1
        have hik : i = k := by
          rcases Nat.lt_or_ge k i with h1 | h1
          · have := before k (by omega) (htail k i h1 (by omega) (by omega))
            have := (hk3 k).1 this
            omega
          · omega
        subst hik
        exact seq ρ' hk1 hk3 E' S' G'
  refine main ops.size _ a (w.drewN 1) (by simp) (fun j hj => ?_) ?_ (.inl ⟨ρ, ?_, fun i _ hL => ?_⟩)
  · exact (no_replicate _ _ hj).elim
  · unfold unl
    refine Nat.le_trans List.countP_le_length ?_
    simp
  · have hno : ∀ i, ¬ L (Array.replicate ops.size false) i := fun i hL => no_replicate _ _ hL
    have hle : ∀ k, k ≤ m → h.length ≤ (hs k).length := fun k hk => by
      have := (hs_mono hq k 0 (by omega) hk).length_le
      rw [h0] at this; exact this
    have hpre : ∀ k, k ≤ m → h <+: hs k := fun k hk => by rw [← h0]; exact hs_mono hq k 0 (by omega) hk
    have hres : ∀ k, k ≤ m → ρ.res (hs k).length = ρ := fun k hk => by
      funext b
      unfold Rho.res
      split
      · rfl
      · cases hb : ρ b with
        | none => rfl
        | some n => have := (S.dom b n hb).1; have := hle k hk; omega
    refine ⟨fun k hk => by rw [hres k hk]; exact S1.ext (hpre k hk), Grow.ext S1 (hpre m (Nat.le_refl _)), fun b n hb => .inl (S.dom b n hb).1, fun i o d _ hL => (hno i hL).elim, fun t v ht _ => E.get t v ht, E.size, E.defers⟩
  · exact (no_replicate _ _ hL).elim
/-- The states on the way, with an operation that turns a block. -/
theorem turn_trace (C : Caller) {pre : List Nat} {B : Nat} {Y : Blk} {n0 : Nat} : ∀ (as : List AOper) (j p : Nat) (e : Env) (h : H) (e' : Env) (h' : H), evalOps C as e h = some (e', h') → turnRun C pre B Y n0 j p as e h →
    ∃ (es : Nat → Env) (hs : Nat → H) (vs : Nat → AV), es 0 = e ∧ hs 0 = h ∧ es as.length = e' ∧ hs as.length = h' ∧
      (∀ i o, as[i]? = some o → evalOp C o (es i) (hs i) = some (vs i, hs (i + 1)) ∧ es (i + 1) = (es i).put o.dst (vs i)) ∧ (∀ i, i < p → hs i <+: hs (i + 1)) ∧
      (∀ i o, i < p → as[i]? = some o → pre.contains (j + i) = true ∨ evalOp C o (es i) ((hs i).set B Y) = some (vs i, (hs (i + 1)).set B Y)) ∧
      p < as.length ∧ hs (p + 1) = (hs p).set B Y ∧ (∃ X, (hs p)[B]? = some X ∧ X.md = .own) ∧ Y.md = .own ∧ lims n0 Y.cells = true
  | [], j, p, e, h, e', h', _, hq => by cases p <;> simp [turnRun] at hq
  | o :: as, j, 0, e, h, e', h', he, hq => by
    simp only [turnRun] at hq
    obtain ⟨hX, hY, hl, v, hv⟩ := hq
    simp only [evalOps, hv] at he
    obtain ⟨es, hs, vs, e1, e2, e3, e4, e5, _⟩ := trace_exists C as _ _ e' h' 0 he (by simp [quietDraw])
    refine ⟨fun | 0 => e | n + 1 => es n, fun | 0 => h | n + 1 => hs n, fun | 0 => v | n + 1 => vs n, rfl, rfl, e3, e4, fun i o' hi => ?_, fun i hi => absurd hi (by omega), fun i o' hi => absurd hi (by omega), by simp, e2, hX, hY, hl⟩
    cases i with
    | zero =>
      simp at hi; subst hi
      simp only [e1, e2]
      exact ⟨hv, trivial⟩
    | succ i => simpa using e5 i o' (by simpa using hi)
  | o :: as, j, p + 1, e, h, e', h', he, hq => by
    simp only [turnRun] at hq
    simp only [evalOps] at he
    split at he
    · cases he
    · rename_i v h1 h1e
      simp only [h1e] at hq
      obtain ⟨hp, hi0, ht⟩ := hq
      obtain ⟨es, hs, vs, e1, e2, e3, e4, e5, e6, e7, e8, e9, e10⟩ := turn_trace C as (j + 1) p _ h1 e' h' he ht
      refine ⟨fun | 0 => e | n + 1 => es n, fun | 0 => h | n + 1 => hs n, fun | 0 => v | n + 1 => vs n, rfl, rfl, e3, e4, fun i o' hi => ?_, fun i hi => ?_, fun i o' hi ho => ?_, by simp; omega, e9, e10⟩
      · cases i with
        | zero =>
          simp at hi; subst hi
          simp only [e1, e2]
          exact ⟨h1e, trivial⟩
        | succ i => simpa using e5 i o' (by simpa using hi)
      · cases i with
        | zero => simp only [e2]; exact hp
        | succ i => exact e6 i (by omega)
      · cases i with
        | zero =>
          simp at ho; subst ho
          simp only [e2]
          exact hi0
        | succ i =>
          have := e7 i o' (by omega) (by simpa using ho)
          rw [show j + (i + 1) = j + 1 + i by omega]
          exact this

theorem draw_sound2 {C : Caller} (hC : CallerOk P C) (hmix : P.follows .mixedOrders = true) {id : Nat} {ops : Array Oper} {as : List AOper} {m : Nat} (hc : compOpers P nt ops ops.toList = some as) (hok : drawOk (grounds ops.toList) (clos [] (grounds ops.toList)) as m = true)
    {e e' : Env} {h h' : H} {ρ : Rho} {a : Act} {w : World} (hqd : turnDraw C m (((clos [] (grounds ops.toList))[m - 1]?).getD []) as e h) (he : evalOps C as e h = some (e', h')) (E : ER ρ nt e a) (S : Sim W0 ρ h w) {Q : Exit → Act → World → Prop}
    (hQ : ∀ a' w' ρ', ER ρ' nt e' a' → Sim W0 ρ' h' w' → Grow ρ h w ρ' h' w' → Q .normal a' w') : (Code.region id ops true).wp P Q a w := by
  obtain ⟨hml, hgl, hgb, hdis, hlook, htail⟩ := drawOk_spec hok
  obtain ⟨hlen, hget⟩ := compOpers_get hc
  have hN : as.length = ops.size := by rw [hlen]; simp
  obtain ⟨p, B, Y, rfl, ht⟩ := hqd
  obtain ⟨es, hs, vs, e0, h0, eN, hNN, hstep, hq, hind, _, hset2, ⟨X, hX, hXo⟩, hYo, hYl⟩ := turn_trace C as 0 p e h e' h' he ht
  simp only [Nat.add_sub_cancel, Nat.zero_add] at hind
  let ht := turned hs p B Y
  have htle : ∀ i, i ≤ p → ht i = (hs i).set B Y := fun i hi => by simp [ht, turned, hi]
  have htlast : ∀ i, p < i → ht i = hs i := fun i hi => by simp only [ht, turned]; rw [if_neg (by omega)]
  have hqt : ∀ i, i < p + 1 → ht i <+: ht (i + 1) := fun i hi => by
    by_cases hip : i < p
    · rw [htle i (by omega), htle (i + 1) (by omega)]; exact pre_set (hq i hip) B Y
    · have : i = p := by omega
      subst this
      rw [htle i (Nat.le_refl _), htlast (i + 1) (by omega), hset2]
      exact List.prefix_refl _
  have hpre : ∀ k, k ≤ p → h <+: hs k := fun k hk => by rw [← h0]; exact hs_mono hq k 0 (by omega) hk
  have hownt : ∀ k, k ≤ p + 1 → ∀ b blk, b < h.length → (ht k)[b]? = some blk → blk.md = .own → ∃ blk0, h[b]? = some blk0 ∧ blk0.md = .own := fun k hk b blk hb hbk ho => by
    have key : ∀ k, k ≤ p → ((hs k).set B Y)[b]? = some blk → ∃ blk0, h[b]? = some blk0 ∧ blk0.md = .own := fun k hk hbk => by
      by_cases hbB : b = B
      · subst hbB
        exact ⟨X, by rw [← pre_get (hpre p (Nat.le_refl _)) hb]; exact hX, hXo⟩
      · rw [List.getElem?_set_ne (fun e => hbB e.symm)] at hbk
        exact ⟨blk, by rw [← pre_get (hpre k hk) hb]; exact hbk, ho⟩
    by_cases hkp : k ≤ p
    · rw [htle k hkp] at hbk; exact key k hkp hbk
    · have : k = p + 1 := by omega
      subst this
      rw [htlast _ (by omega), hset2] at hbk
      exact key p (Nat.le_refl _) hbk
  have hes : ∀ i o, as[i]? = some o → es (i + 1) = (es i).put o.dst (vs i) := fun i o hi => (hstep i o hi).2
  refine wp_region_any hmix ?_
  have S1 : Sim W0 ρ h (w.drewN 1) := S.drewN 1
  have hGd := Grow.drewN ρ h w 1
  show wpAny P .any ops Q ops.size (Array.replicate ops.size false) a (w.drewN 1)
  -- what is known of an operation
  have oper : ∀ i, i < ops.size → ∃ o ao, ops[i]? = some o ∧ as[i]? = some ao ∧ compOper P nt ops o = some ao ∧ ao.dst = o.dst ∧ (∀ d, o.dst = some d → d < nt) := fun i hi => by
    obtain ⟨ao, h1, h2⟩ := hget i ops[i] (by rw [Array.getElem?_toList]; exact Array.getElem?_eq_getElem hi)
    obtain ⟨h3, h4⟩ := compOper_dst h2
    exact ⟨ops[i], ao, Array.getElem?_eq_getElem hi, h1, h2, h3, h4⟩
  let g := grounds ops.toList
  have hgr : ∀ (j : Nat) (o : Oper), ops[j]? = some o → (g[j]?).getD [] = (o.after.toList.filter (Region.binds .any ·)).map (·.on) := fun j o hj => by
    have : ops.toList[j]? = some o := by rw [Array.getElem?_toList]; exact hj
    simp [g, grounds, this]
  -- the two states
  let L := fun (listed : Array Bool) (i : Nat) => listed.getD i false = true
  let st := fun (listed : Array Bool) (a : Act) (w' : World) =>
    (∃ ρS, Mid W0 ρ h (w.drewN 1) nt as p e hs vs (L listed) ρS a w' ∧ ∀ i, p ≤ i → ¬ L listed i) ∨
    (∃ ρS, Mid W0 ρ h (w.drewN 1) nt as (p + 1) e ht vs (L listed) ρS a w' ∧ L listed p ∧ ∀ i, p + 1 ≤ i → ¬ L listed i) ∨
    (∃ k ρ', p + 1 ≤ k ∧ k ≤ ops.size ∧ (∀ i, L listed i ↔ i < k) ∧ ER ρ' nt (es k) a ∧ Sim W0 ρ' (hs k) w' ∧ Grow ρ h (w.drewN 1) ρ' (hs k) w')
  -- all of the first m listed: the second state
  have turn : ∀ (listed : Array Bool) (a : Act) (w' : World) (ρS : Rho), Mid W0 ρ h (w.drewN 1) nt as (p + 1) e ht vs (L listed) ρS a w' → (∀ i, i < p + 1 → L listed i) →
      ER ρS nt (es (p + 1)) a ∧ Sim W0 ρS (hs (p + 1)) w' ∧ Grow ρ h (w.drewN 1) ρS (hs (p + 1)) w' := by
    intro listed a w' ρS M hall
    have hlen : ∀ k, k ≤ p + 1 → (ht k).length ≤ (ht (p + 1)).length := fun k hk => (hs_mono hqt (p + 1) k hk (Nat.le_refl _)).length_le
    have hlast := htlast (p + 1) (by omega)
    have hres : ρS.res (ht (p + 1)).length = ρS := by
      funext b
      unfold Rho.res
      split
      · rfl
      · rename_i hb
        cases hb' : ρS b with
        | none => rfl
        | some n =>
          rcases M.dom b n hb' with h1 | ⟨i, hi, _, _, h2⟩
          · have e1 := hlen 0 (by omega)
            rw [htle 0 (by omega), h0] at e1
            simp at e1
            omega
          · have := hlen (i + 1) (by omega)
            omega
    have hsim := M.sim (p + 1) (Nat.le_refl _)
    have hgrow := M.grow
    rw [hres, hlast] at hsim
    rw [hlast] at hgrow
    refine ⟨⟨fun t v ht' => ?_, M.size, M.defers⟩, hsim, hgrow⟩
    rcases es_get hes (p + 1) (by omega) t v ht' with ⟨j, o, hj, h1, h2, rfl⟩ | ⟨h1, h2⟩
    · obtain ⟨x, hx, hr⟩ := M.dst j o t hj (hall j hj) h1 h2
      exact ⟨x, hx, hr.mono fun b n hb => (Rho.res_some hb).2⟩
    · rw [e0] at h1
      obtain ⟨x, hx, hr⟩ := M.old t v h1 fun i o hi _ ho => h2 i o hi ho
      exact ⟨x, hx, hr.mono M.grow.le⟩
  have hset : ∀ (listed : Array Bool) (i : Nat), i < listed.size → ∀ j, L (listed.setIfInBounds i true) j ↔ L listed j ∨ j = i := by
    intro listed i hi j
    simp only [L]
    by_cases hji : j = i
    · subst hji; simp [hi]
    · rw [getD_set_ne false (fun e => hji e.symm)]; simp [hji]
  -- nothing ready: the end
  have fin : ∀ (listed : Array Bool) (a : Act) (w' : World), listed.size = ops.size → st listed a w' → (∀ i, i < ops.size → L listed i) → Q .normal a w' := by
    intro listed a w' hsz hst hall
    rcases hst with ⟨ρS, M, hnone⟩ | ⟨ρS, M, _, hnone⟩ | ⟨k, ρ', hk1, hk2, hk3, E', S', G'⟩
    · exact absurd (hall p (by omega)) (hnone p (Nat.le_refl _))
    · have hmN : p + 1 = ops.size := by
        rcases Nat.lt_or_ge (p + 1) ops.size with h1 | h1
        · exact absurd (hall (p + 1) h1) (hnone (p + 1) (Nat.le_refl _))
        · omega
      obtain ⟨E', S', G'⟩ := turn listed a w' ρS M fun i hi => hall i (by omega)
      rw [show p + 1 = as.length by omega] at E' S' G'
      rw [eN] at E'
      rw [hNN] at S' G'
      exact hQ a w' ρS E' S' (hGd.trans G')
    · have hkN : k = ops.size := by
        rcases Nat.lt_or_ge k ops.size with h1 | h1
        · have := (hk3 k).1 (hall k h1); omega
        · omega
      rw [hkN, ← hN] at E' S' G'
      rw [eN] at E'
      rw [hNN] at S' G'
      exact hQ a w' ρ' E' S' (hGd.trans G')
  have main : ∀ (fuel : Nat) (listed : Array Bool) (a : Act) (w' : World), listed.size = ops.size → (∀ j, L listed j → ∀ k ∈ (g[j]?).getD [], L listed k) → unl listed ≤ fuel → st listed a w' → wpAny P .any ops Q fuel listed a w' := by
    intro fuel
    have allOf : ∀ (listed : Array Bool), listed.size = ops.size → Region.ready .any ops listed = [] → ∀ i, i < ops.size → L listed i := by
      intro listed hsz hr i
      induction i using Nat.strongRecOn with
      | _ i ih =>
        intro hi
        cases hl : listed.getD i false with
        | true => exact hl
        | false =>
          exfalso
          obtain ⟨o, ao, ho, _⟩ := oper i hi
          have : i ∈ Region.ready .any ops listed := by
            refine mem_ready.2 ⟨?_, o, ho, fun ed hed hb => ?_⟩
            · have hlt : i < listed.size := by omega
              simpa [hlt] using hl
            · have hk : ed.on ∈ (g[i]?).getD [] := by
                rw [hgr i o ho]
                exact List.mem_map.2 ⟨ed, List.mem_filter.2 ⟨by simpa using hed, hb⟩, rfl⟩
              have hlt := hgb i ed.on (by omega) hk
              exact ih ed.on hlt (by omega)
          rw [hr] at this
          cases this
    induction fuel with
    | zero =>
      intro listed a w' hsz hcl hun hst
      have hr : Region.ready .any ops listed = [] := by
        cases hr : Region.ready .any ops listed with
        | nil => rfl
        | cons i l =>
          have hi : i ∈ Region.ready .any ops listed := by rw [hr]; exact List.mem_cons_self
          have := unl_set (mem_ready.1 hi).1
          omega
      exact ⟨hr, fin listed a w' hsz hst (allOf listed hsz hr)⟩
    | succ fuel ih =>
      intro listed a w' hsz hcl hun hst
      refine ⟨fun hr => fin listed a w' hsz hst (allOf listed hsz hr), fun i hi => ?_⟩
      obtain ⟨hil, o, ho, hafter⟩ := mem_ready.1 hi
      have hilt : i < ops.size := (Array.getElem?_eq_some_iff.1 ho).1
      have hunl := unl_set hil
      have hnot : ¬ L listed i := by
        have hlt : i < listed.size := by omega
        simp only [L]
        simp [hlt] at hil ⊢
        exact hil
      obtain ⟨o', ao, ho', hao, hco, hdst, hdn⟩ := oper i hilt
      rw [ho] at ho'; cases ho'
      have hcl' : ∀ j, L (listed.setIfInBounds i true) j → ∀ k ∈ (g[j]?).getD [], L (listed.setIfInBounds i true) k := by
        intro j hj k hk
        rw [hset listed i (by omega)] at hj ⊢
        rcases hj with hj | rfl
        · exact .inl (hcl j hj k hk)
        · left
          rw [hgr j o ho] at hk
          obtain ⟨ed, hed, rfl⟩ := List.mem_map.1 hk
          obtain ⟨h1, h2⟩ := List.mem_filter.1 hed
          exact hafter ed (by simpa using h1) h2
      have before : ∀ j, j ≠ i → isAfter (clos [] g) i j = true → L listed j := fun j hj haf => by
        have := after_listed hcl' i j haf ((hset listed i (by omega) i).2 (.inr rfl))
        exact ((hset listed i (by omega) j).1 this).resolve_right hj
      obtain ⟨hev, hput⟩ := hstep i ao hao
      -- in the text's order, behind all
      have seq : ∀ (ρ' : Rho), p + 1 ≤ i → (∀ j, L listed j ↔ j < i) → ER ρ' nt (es i) a → Sim W0 ρ' (hs i) w' → Grow ρ h (w.drewN 1) ρ' (hs i) w' → wpOp P ops Q i (wpAny P .any ops Q fuel (listed.setIfInBounds i true)) a w' := by
        intro ρ' hmi hL E' S' G'
        refine oper_sound hC ho hco hev E' S' fun x w2 ρ2 hv S2 G2 => ?_
        refine ih _ _ _ (by simpa using hsz) hcl' (by omega) (.inr (.inr ⟨i + 1, ρ2, by omega, by omega, fun j => ?_, ?_, S2, G'.trans G2⟩))
        · rw [hset listed i (by omega), hL]; omega
        · rw [hput, hdst]
          exact (E'.mono G2.le).put _ hdn hv
      -- an operation among the first: its environment
      have env : ∀ (q : Nat) (hk : Nat → H) (ρS : Rho), q ≤ p + 1 → (∀ i, i < q → hk i <+: hk (i + 1)) → h.length ≤ (hk 0).length → Mid W0 ρ h (w.drewN 1) nt as q e hk vs (L listed) ρS a w' → i < q → (∀ j, L listed j → j < q) → ER (ρS.res (hk i).length) nt ((es i).keep ao.looks) a := by
        intro q hk ρS hqm hqk hk0 M hiq hLq
        refine ⟨fun t v ht => ?_, M.size, M.defers⟩
        have hmem := Env.get_keep_mem _ _ _ _ ht
        have hval := Env.get_keep _ _ _ _ ht
        rcases es_get hes i (by omega) t v hval with ⟨j, oj, hj, h1, h2, rfl⟩ | ⟨h1, h2⟩
        · have hLj := before j (by omega) ((hlook i j ao oj t (by omega) (by omega) (by omega) hao h1 h2 hmem).1 hj)
          obtain ⟨x, hx, hr⟩ := M.dst j oj t (by omega) hLj h1 h2
          exact ⟨x, hx, hr.mono (Rho.res_le ρS (hs_mono hqk i (j + 1) (by omega) (by omega)).length_le)⟩
        · rw [e0] at h1
          obtain ⟨x, hx, hr⟩ := M.old t v h1 fun k ok hkq hLk hok' hd => by
            rcases Nat.lt_trichotomy k i with hlt | heq | hgt
            · exact h2 k ok hlt hok' hd
            · subst heq; exact hnot hLk
            · have haf := (hlook i k ao ok t (by omega) (by omega) (by omega) hao hok' hd hmem).2 hgt
              exact hnot (after_listed hcl k i haf hLk)
          refine ⟨x, hx, hr.mono fun b n hb => ?_⟩
          have hbl := (S.dom b n hb).1
          have := (hs_mono hqk i 0 (by omega) (by omega)).length_le
          rw [Rho.res_lt (by omega)]
          exact M.grow.le b n hb
      have h0l : h.length ≤ (hs 0).length := by rw [h0]; exact Nat.le_refl _
      have h0t : h.length ≤ (ht 0).length := by rw [htle 0 (by omega), h0]; simp
      rcases hst with ⟨ρS, M, hnone⟩ | ⟨ρS, M, hLp, hnone⟩ | ⟨k, ρ', hk1, hk2, hk3, E', S', G'⟩
      · -- before the block is turned
        have hLq : ∀ j, L listed j → j < p := fun j hj => by
          rcases Nat.lt_or_ge j p with h1 | h1
          · exact h1
          · exact absurd hj (hnone j h1)
        by_cases him : i < p
        · have hev' : evalOp C ao ((es i).keep ao.looks) (hs i) = some (vs i, hs (i + 1)) := by rw [evalOp_keep]; exact hev
          have hE := env p hs ρS (by omega) hq h0l M him hLq
          refine oper_sound hC ho hco hev' hE (M.sim i (by omega)) fun x w2 ρ2 hv S2 G2 => ?_
          refine ih _ _ _ (by simpa using hsz) hcl' (by omega) (.inl ⟨ρS.mix ρ2 (hs i).length (hs (i + 1)).length, ?_, fun j hj hLj => ?_⟩)
          · rw [← hdst]
            exact M.take S1 h0l (fun k hk b blk hb hbk ho => ⟨blk, by rw [← pre_get (hpre k hk) hb]; exact hbk, ho⟩) hq him hnot hao (hset listed i (by omega)) (fun j oj hj hji hoj d hd => hdis i j ao oj (by omega) (by omega) (fun e => hji e.symm) hao hoj d hd) (by rw [hdst]; exact hdn) hv S2 G2
          · rcases (hset listed i (by omega) j).1 hLj with h1 | h1
            · exact hnone j hj h1
            · omega
        · by_cases hip : i = p
          · subst hip
            have hE : ER (ρS.res (hs i).length) nt ((es i).keep ao.looks) a := by
              refine ⟨fun t v ht => ?_, M.size, M.defers⟩
              have hmem := Env.get_keep_mem _ _ _ _ ht
              have hval := Env.get_keep _ _ _ _ ht
              rcases es_get hes i (by omega) t v hval with ⟨j, oj, hj, h1, h2, rfl⟩ | ⟨h1, h2⟩
              · have hLj := before j (by omega) ((hlook i j ao oj t (by omega) (by omega) (by omega) hao h1 h2 hmem).1 hj)
                obtain ⟨x, hx, hr⟩ := M.dst j oj t (by omega) hLj h1 h2
                exact ⟨x, hx, hr.mono (Rho.res_le ρS (hs_mono hq i (j + 1) (by omega) (by omega)).length_le)⟩
              · rw [e0] at h1
                obtain ⟨x, hx, hr⟩ := M.old t v h1 fun k ok hkq _ hok' hd => h2 k ok hkq hok' hd
                refine ⟨x, hx, hr.mono fun b n hb => ?_⟩
                have hbl := (S.dom b n hb).1
                have := (hs_mono hq i 0 (by omega) (by omega)).length_le
                rw [Rho.res_lt (by omega)]
                exact M.grow.le b n hb
            have hev' : evalOp C ao ((es i).keep ao.looks) (hs i) = some (vs i, hs (i + 1)) := by rw [evalOp_keep]; exact hev
            refine oper_sound hC ho hco hev' hE (M.sim i (by omega)) fun x w2 ρ2 hv S2 G2 => ?_
            refine ih _ _ _ (by simpa using hsz) hcl' (by omega) (.inr (.inl ⟨ρ2, ?_, (hset listed i (by omega) i).2 (.inr rfl), fun j hj hLj => ?_⟩))
            · rw [← hdst]
              exact M.turn h0 hq hset2 hYl hao (hset listed i (by omega)) hnone (fun j oj hj hji hoj d hd => hdis i j ao oj (by omega) (by omega) (fun e => hji e.symm) hao hoj d hd) (by rw [hdst]; exact hdn) hv S2 G2
            · rcases (hset listed i (by omega) j).1 hLj with h1 | h1
              · exact hnone j (by omega) h1
              · omega
          · exact absurd (before p (by omega) (htail p i (by omega) (by omega) (by omega))) (hnone p (Nat.le_refl _))
      · -- behind
        have hLq : ∀ j, L listed j → j < p + 1 := fun j hj => by
          rcases Nat.lt_or_ge j (p + 1) with h1 | h1
          · exact h1
          · exact absurd hj (hnone j h1)
        by_cases him : i < p + 1
        · have hip : i < p := by
            rcases Nat.lt_or_ge i p with h1 | h1
            · exact h1
            · have : i = p := by omega
              subst this
              exact absurd hLp hnot
          have hev' : evalOp C ao ((es i).keep ao.looks) (ht i) = some (vs i, ht (i + 1)) := by
            rw [evalOp_keep, htle i (by omega), htle (i + 1) (by omega)]
            rcases hind i ao hip hao with h1 | h1
            · exact absurd (after_listed hcl p i h1 hLp) hnot
            · exact h1
          have hE := env (p + 1) ht ρS (by omega) hqt h0t M him hLq
          refine oper_sound hC ho hco hev' hE (M.sim i (by omega)) fun x w2 ρ2 hv S2 G2 => ?_
          refine ih _ _ _ (by simpa using hsz) hcl' (by omega) (.inr (.inl ⟨ρS.mix ρ2 (ht i).length (ht (i + 1)).length, ?_, (hset listed i (by omega) p).2 (.inl hLp), fun j hj hLj => ?_⟩))
          · rw [← hdst]
            exact M.take S1 h0t hownt hqt him hnot hao (hset listed i (by omega)) (fun j oj hj hji hoj d hd => hdis i j ao oj (by omega) (by omega) (fun e => hji e.symm) hao hoj d hd) (by rw [hdst]; exact hdn) hv S2 G2
          · rcases (hset listed i (by omega) j).1 hLj with h1 | h1
            · exact hnone j hj h1
            · omega
        · have hall : ∀ j, j < i → L listed j := fun j hj => before j (by omega) (htail j i hj (by omega) (by omega))
          have him' : i = p + 1 := by
            rcases Nat.lt_or_ge (p + 1) i with h1 | h1
            · exact absurd (hall (p + 1) h1) (hnone (p + 1) (Nat.le_refl _))
            · omega
          obtain ⟨E', S', G'⟩ := turn listed a w' ρS M fun j hj => hall j (by omega)
          subst him'
          refine seq ρS (Nat.le_refl _) (fun j => ⟨fun hj => ?_, hall j⟩) E' S' G'
          rcases Nat.lt_or_ge j (p + 1) with h1 | h1
          · exact h1
          · exact absurd hj (hnone j h1)
      · have hki : k ≤ i := by
          rcases Nat.lt_or_ge i k with h1 | h1
          · exact absurd ((hk3 i).2 h1) hnot
          · exact h1
        have hik : i = k := by
          rcases Nat.lt_or_ge k i with h1 | h1
          · have := before k (by omega) (htail k i h1 (by omega) (by omega))
            have := (hk3 k).1 this
            omega
          · omega
        subst hik
        exact seq ρ' hk1 hk3 E' S' G'
  refine main ops.size _ a (w.drewN 1) (by simp) (fun j hj => ?_) ?_ (.inl ⟨ρ, ?_, fun i _ hL => ?_⟩)
  · exact (no_replicate _ _ hj).elim
  · unfold unl
    refine Nat.le_trans List.countP_le_length ?_
    simp
  · have hno : ∀ i, ¬ L (Array.replicate ops.size false) i := fun i hL => no_replicate _ _ hL
    have hle : ∀ k, k ≤ p → h.length ≤ (hs k).length := fun k hk => by
      have := (hs_mono hq k 0 (by omega) hk).length_le
      rw [h0] at this; exact this
    have hres : ∀ k, k ≤ p → ρ.res (hs k).length = ρ := fun k hk => by
      funext b
      unfold Rho.res
      split
      · rfl
      · cases hb : ρ b with
        | none => rfl
        | some n => have := (S.dom b n hb).1; have := hle k hk; omega
    refine ⟨fun k hk => by rw [hres k hk]; exact S1.ext (hpre k hk), Grow.ext S1 (hpre p (Nat.le_refl _)), fun b n hb => .inl (S.dom b n hb).1, fun i o d _ hL => (hno i hL).elim, fun t v ht _ => E.get t v ht, E.size, E.defers⟩
  · exact (no_replicate _ _ hL).elim
end
end Go.V
