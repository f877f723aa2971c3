import Derived.Test.YtemiffhfijlcaaaR2Str
set_option linter.unusedSimpArgs false
set_option linter.unusedVariables false
set_option linter.unusedSectionVars false
/-! Which strings are valid. -/
namespace Go.V.Try
open Go Go.V
section
variable {h : H} {Q : AV → H → Prop}
/-- impl.arePoints -/
theorem w29 {r : Option Ref} {n cap : Nat} {gr : Option Nat} (hq : Q (.b (decide (2 ≤ (n : Int)) && decide ((n : Int) ≤ 16))) h) : W Φ 29 [.sl r n cap gr] h Q := by
  refine W.dropL (F := F29) rfl ?_
  refine EvC.seq ?_
  refine EvC.reg ?_
  refine EvOps.step (n := 0) rfl ?_
  refine EvOps.nil ?_
  simp only [KP, KH, KC, ↓reduceIte, Nat.reduceEqDiff, Nat.reduceAdd]
  refine EvC.seq ?_
  refine EvC.reg ?_
  refine EvOps.step (n := 0) rfl ?_
  refine EvOps.step (n := 0) rfl ?_
  refine EvOps.step (n := 0) rfl ?_
  refine EvOps.stepB (n := 0) rfl (fun hc => ?_) (fun hc => ?_)
  · first
     | cases hc; done
     | refine EvOps.step (n := 0) rfl ?_
       refine EvOps.step (n := 0) rfl ?_
       refine EvOps.step (n := 0) rfl ?_
       refine EvOps.step (n := 0) rfl ?_
       refine EvOps.step (n := 0) rfl ?_
       refine EvOps.nil ?_
       simp only [KP, KH, KC, ↓reduceIte, Nat.reduceEqDiff, Nat.reduceAdd]
       refine EvC.ret ?_
       refine Res.finR rfl ?_
       (refine ⟨List.prefix_append _ _, rfl, ?_⟩; simp_all [pack])
  · first
     | cases hc; done
     | refine EvOps.step (n := 0) rfl ?_
       refine EvOps.step (n := 0) rfl ?_
       refine EvOps.step (n := 0) rfl ?_
       refine EvOps.step (n := 0) rfl ?_
       refine EvOps.step (n := 0) rfl ?_
       refine EvOps.nil ?_
       simp only [KP, KH, KC, ↓reduceIte, Nat.reduceEqDiff, Nat.reduceAdd]
       refine EvC.ret ?_
       refine Res.finR rfl ?_
       (refine ⟨List.prefix_append _ _, rfl, ?_⟩; simp_all [pack])
/-- spec.l04Points -/
theorem w77 {r : Option Ref} {n cap : Nat} {gr : Option Nat} (hq : Q (.b (decide (2 ≤ (n : Int)) && decide ((n : Int) ≤ 16))) h) : W Φ 77 [.sl r n cap gr] h Q := by
  refine W.dropL (F := F77) rfl ?_
  refine EvC.seq ?_
  refine EvC.reg ?_
  refine EvOps.step (n := 0) rfl ?_
  refine EvOps.nil ?_
  simp only [KP, KH, KC, ↓reduceIte, Nat.reduceEqDiff, Nat.reduceAdd]
  refine EvC.seq ?_
  refine EvC.reg ?_
  refine EvOps.step (n := 0) rfl ?_
  refine EvOps.step (n := 0) rfl ?_
  refine EvOps.call rfl rfl ?_
  refine w60 ?_
  refine EvOps.step (n := 0) rfl ?_
  refine EvOps.nil ?_
  simp only [KP, KH, KC, ↓reduceIte, Nat.reduceEqDiff, Nat.reduceAdd]
  refine EvC.ret ?_
  refine Res.finR rfl ?_
  exact ⟨List.prefix_append _ _, rfl, hq⟩
/-- impl.ValidString -/
theorem w10 {r1 r2 r3 r4 : Option Ref} {c1 c2 c3 c4 : Nat} {g1 g2 g3 g4 : Option Nat} {s : Str} (hs : s.pts.length < 2 ^ 40) (hq : Q (.b s.ok) h) : W Φ 10 [.agg [.sl r1 s.pts.length c1 g1, .sl r2 s.bef.length c2 g2, .sl r3 s.fixed.length c3 g3, .sl r4 s.lens.length c4 g4, f32 s.fall.x, f32 s.fall.y, f32 s.fall.z, f32 s.damp, i64 s.passes]] h Q := by
  refine W.dropL (F := F10) rfl ?_
  refine EvC.seq ?_
  refine EvC.reg ?_
  refine EvOps.boxL rfl rfl rfl rfl rfl ?_
  refine EvOps.step (n := 0) rfl ?_
  refine EvOps.nil ?_
  simp only [KP, KH, KC, ↓reduceIte, Nat.reduceEqDiff, Nat.reduceAdd]
  refine EvC.seq ?_
  refine EvC.reg ?_
  refine EvOps.step (n := 0) rfl ?_
  first | refine EvOps.ldL rfl rfl rfl ?_ | refine EvOps.ldLm rfl rfl rfl (by simp only [List.length_set, S2_len]) ?_ | refine EvOps.ldH rfl rfl (by assumption) ?_
  refine EvOps.step (n := 0) rfl ?_
  refine EvOps.step (n := 0) rfl ?_
  refine EvOps.nil ?_
  simp only [KP, KH, KC, ↓reduceIte, Nat.reduceEqDiff, Nat.reduceAdd]
  refine EvC.seq ?_
  refine EvC.reg ?_
  refine EvOps.step (n := 0) rfl ?_
  first | refine EvOps.ldL rfl rfl rfl ?_ | refine EvOps.ldLm rfl rfl rfl (by simp only [List.length_set, S2_len]) ?_ | refine EvOps.ldH rfl rfl (by assumption) ?_
  refine EvOps.call rfl rfl ?_
  refine w29 ?_
  refine EvOps.stepB (n := 0) rfl (fun hc => ?_) (fun hc => ?_)
  · first
     | cases hc; done
     | refine EvOps.step (n := 0) rfl ?_
       first | refine EvOps.ldL rfl rfl rfl ?_ | refine EvOps.ldLm rfl rfl rfl (by simp only [List.length_set, S2_len]) ?_ | refine EvOps.ldH rfl rfl (by assumption) ?_ | refine EvOps.step (n := 0) rfl ?_
       refine EvOps.step (n := 0) rfl ?_
       refine EvOps.step (n := 0) rfl ?_
       refine EvOps.step (n := 0) rfl ?_
       refine EvOps.step (n := 0) rfl ?_
       refine EvOps.stepB (n := 0) rfl (fun hc => ?_) (fun hc => ?_)
       · first
          | cases hc; done
          | refine EvOps.step (n := 0) rfl ?_
            first | refine EvOps.ldL rfl rfl rfl ?_ | refine EvOps.ldLm rfl rfl rfl (by simp only [List.length_set, S2_len]) ?_ | refine EvOps.ldH rfl rfl (by assumption) ?_ | refine EvOps.step (n := 0) rfl ?_
            refine EvOps.step (n := 0) rfl ?_
            refine EvOps.step (n := 0) rfl ?_
            refine EvOps.step (n := 0) rfl ?_
            refine EvOps.step (n := 0) rfl ?_
            refine EvOps.stepB (n := 0) rfl (fun hc => ?_) (fun hc => ?_)
            · first
               | cases hc; done
               | refine EvOps.step (n := 0) rfl ?_
                 first | refine EvOps.ldL rfl rfl rfl ?_ | refine EvOps.ldLm rfl rfl rfl (by simp only [List.length_set, S2_len]) ?_ | refine EvOps.ldH rfl rfl (by assumption) ?_ | refine EvOps.step (n := 0) rfl ?_
                 refine EvOps.step (n := 0) rfl ?_
                 refine EvOps.step (n := 0) rfl ?_
                 first | refine EvOps.subI rfl rfl (by omega) ?_ | refine EvOps.step (n := 0) rfl ?_
                 refine EvOps.step (n := 0) rfl ?_
                 refine EvOps.step (n := 0) rfl ?_
                 refine EvOps.stepB (n := 0) rfl (fun hc => ?_) (fun hc => ?_)
                 · first
                    | cases hc; done
                    | refine EvOps.step (n := 0) rfl ?_
                      first | refine EvOps.ldL rfl rfl rfl ?_ | refine EvOps.ldLm rfl rfl rfl (by simp only [List.length_set, S2_len]) ?_ | refine EvOps.ldH rfl rfl (by assumption) ?_ | refine EvOps.step (n := 0) rfl ?_
                      refine EvOps.step (n := 0) rfl ?_
                      refine EvOps.step (n := 0) rfl ?_
                      refine EvOps.stepB (n := 0) rfl (fun hc => ?_) (fun hc => ?_)
                      · first
                         | cases hc; done
                         | refine EvOps.step (n := 0) rfl ?_
                           first | refine EvOps.ldL rfl rfl rfl ?_ | refine EvOps.ldLm rfl rfl rfl (by simp only [List.length_set, S2_len]) ?_ | refine EvOps.ldH rfl rfl (by assumption) ?_ | refine EvOps.step (n := 0) rfl ?_
                           refine EvOps.step (n := 0) rfl ?_
                           refine EvOps.step (n := 0) rfl ?_
                           refine EvOps.step (n := 0) rfl ?_
                           refine EvOps.nil ?_
                           simp only [KP, KH, KC, ↓reduceIte, Nat.reduceEqDiff, Nat.reduceAdd]
                           refine EvC.ret ?_
                           refine Res.finR rfl ?_
                           refine ⟨List.prefix_append _ _, rfl, ?_⟩
                           refine Eq.subst (motive := fun t => Q (.b t) h) (?_ : s.ok = _) hq
                           unfold Str.ok
                           simp_all <;> omega
                      · first
                         | cases hc; done
                         | refine EvOps.step (n := 0) rfl ?_
                           first | refine EvOps.ldL rfl rfl rfl ?_ | refine EvOps.ldLm rfl rfl rfl (by simp only [List.length_set, S2_len]) ?_ | refine EvOps.ldH rfl rfl (by assumption) ?_ | refine EvOps.step (n := 0) rfl ?_
                           refine EvOps.step (n := 0) rfl ?_
                           refine EvOps.step (n := 0) rfl ?_
                           refine EvOps.step (n := 0) rfl ?_
                           refine EvOps.nil ?_
                           simp only [KP, KH, KC, ↓reduceIte, Nat.reduceEqDiff, Nat.reduceAdd]
                           refine EvC.ret ?_
                           refine Res.finR rfl ?_
                           refine ⟨List.prefix_append _ _, rfl, ?_⟩
                           refine Eq.subst (motive := fun t => Q (.b t) h) (?_ : s.ok = _) hq
                           unfold Str.ok
                           simp_all <;> omega
                 · first
                    | cases hc; done
                    | refine EvOps.step (n := 0) rfl ?_
                      first | refine EvOps.ldL rfl rfl rfl ?_ | refine EvOps.ldLm rfl rfl rfl (by simp only [List.length_set, S2_len]) ?_ | refine EvOps.ldH rfl rfl (by assumption) ?_ | refine EvOps.step (n := 0) rfl ?_
                      refine EvOps.step (n := 0) rfl ?_
                      refine EvOps.step (n := 0) rfl ?_
                      refine EvOps.step (n := 0) rfl ?_
                      refine EvOps.step (n := 0) rfl ?_
                      first | refine EvOps.ldL rfl rfl rfl ?_ | refine EvOps.ldLm rfl rfl rfl (by simp only [List.length_set, S2_len]) ?_ | refine EvOps.ldH rfl rfl (by assumption) ?_ | refine EvOps.step (n := 0) rfl ?_
                      refine EvOps.step (n := 0) rfl ?_
                      refine EvOps.step (n := 0) rfl ?_
                      refine EvOps.step (n := 0) rfl ?_
                      refine EvOps.nil ?_
                      simp only [KP, KH, KC, ↓reduceIte, Nat.reduceEqDiff, Nat.reduceAdd]
                      refine EvC.ret ?_
                      refine Res.finR rfl ?_
                      refine ⟨List.prefix_append _ _, rfl, ?_⟩
                      refine Eq.subst (motive := fun t => Q (.b t) h) (?_ : s.ok = _) hq
                      unfold Str.ok
                      simp_all <;> omega
            · first
               | cases hc; done
               | refine EvOps.step (n := 0) rfl ?_
                 first | refine EvOps.ldL rfl rfl rfl ?_ | refine EvOps.ldLm rfl rfl rfl (by simp only [List.length_set, S2_len]) ?_ | refine EvOps.ldH rfl rfl (by assumption) ?_ | refine EvOps.step (n := 0) rfl ?_
                 refine EvOps.step (n := 0) rfl ?_
                 refine EvOps.step (n := 0) rfl ?_
                 first | refine EvOps.subI rfl rfl (by omega) ?_ | refine EvOps.step (n := 0) rfl ?_
                 refine EvOps.step (n := 0) rfl ?_
                 refine EvOps.step (n := 0) rfl ?_
                 refine EvOps.step (n := 0) rfl ?_
                 refine EvOps.step (n := 0) rfl ?_
                 first | refine EvOps.ldL rfl rfl rfl ?_ | refine EvOps.ldLm rfl rfl rfl (by simp only [List.length_set, S2_len]) ?_ | refine EvOps.ldH rfl rfl (by assumption) ?_ | refine EvOps.step (n := 0) rfl ?_
                 refine EvOps.step (n := 0) rfl ?_
                 refine EvOps.step (n := 0) rfl ?_
                 refine EvOps.step (n := 0) rfl ?_
                 refine EvOps.step (n := 0) rfl ?_
                 first | refine EvOps.ldL rfl rfl rfl ?_ | refine EvOps.ldLm rfl rfl rfl (by simp only [List.length_set, S2_len]) ?_ | refine EvOps.ldH rfl rfl (by assumption) ?_ | refine EvOps.step (n := 0) rfl ?_
                 refine EvOps.step (n := 0) rfl ?_
                 refine EvOps.step (n := 0) rfl ?_
                 refine EvOps.step (n := 0) rfl ?_
                 refine EvOps.nil ?_
                 simp only [KP, KH, KC, ↓reduceIte, Nat.reduceEqDiff, Nat.reduceAdd]
                 refine EvC.ret ?_
                 refine Res.finR rfl ?_
                 refine ⟨List.prefix_append _ _, rfl, ?_⟩
                 refine Eq.subst (motive := fun t => Q (.b t) h) (?_ : s.ok = _) hq
                 unfold Str.ok
                 simp_all <;> omega
       · first
          | cases hc; done
          | refine EvOps.step (n := 0) rfl ?_
            first | refine EvOps.ldL rfl rfl rfl ?_ | refine EvOps.ldLm rfl rfl rfl (by simp only [List.length_set, S2_len]) ?_ | refine EvOps.ldH rfl rfl (by assumption) ?_ | refine EvOps.step (n := 0) rfl ?_
            refine EvOps.step (n := 0) rfl ?_
            refine EvOps.step (n := 0) rfl ?_
            refine EvOps.step (n := 0) rfl ?_
            refine EvOps.step (n := 0) rfl ?_
            refine EvOps.step (n := 0) rfl ?_
            refine EvOps.step (n := 0) rfl ?_
            first | refine EvOps.ldL rfl rfl rfl ?_ | refine EvOps.ldLm rfl rfl rfl (by simp only [List.length_set, S2_len]) ?_ | refine EvOps.ldH rfl rfl (by assumption) ?_ | refine EvOps.step (n := 0) rfl ?_
            refine EvOps.step (n := 0) rfl ?_
            refine EvOps.step (n := 0) rfl ?_
            first | refine EvOps.subI rfl rfl (by omega) ?_ | refine EvOps.step (n := 0) rfl ?_
            refine EvOps.step (n := 0) rfl ?_
            refine EvOps.step (n := 0) rfl ?_
            refine EvOps.step (n := 0) rfl ?_
            refine EvOps.step (n := 0) rfl ?_
            first | refine EvOps.ldL rfl rfl rfl ?_ | refine EvOps.ldLm rfl rfl rfl (by simp only [List.length_set, S2_len]) ?_ | refine EvOps.ldH rfl rfl (by assumption) ?_ | refine EvOps.step (n := 0) rfl ?_
            refine EvOps.step (n := 0) rfl ?_
            refine EvOps.step (n := 0) rfl ?_
            refine EvOps.step (n := 0) rfl ?_
            refine EvOps.step (n := 0) rfl ?_
            first | refine EvOps.ldL rfl rfl rfl ?_ | refine EvOps.ldLm rfl rfl rfl (by simp only [List.length_set, S2_len]) ?_ | refine EvOps.ldH rfl rfl (by assumption) ?_ | refine EvOps.step (n := 0) rfl ?_
            refine EvOps.step (n := 0) rfl ?_
            refine EvOps.step (n := 0) rfl ?_
            refine EvOps.step (n := 0) rfl ?_
            refine EvOps.nil ?_
            simp only [KP, KH, KC, ↓reduceIte, Nat.reduceEqDiff, Nat.reduceAdd]
            refine EvC.ret ?_
            refine Res.finR rfl ?_
            refine ⟨List.prefix_append _ _, rfl, ?_⟩
            refine Eq.subst (motive := fun t => Q (.b t) h) (?_ : s.ok = _) hq
            unfold Str.ok
            simp_all <;> omega
  · first
     | cases hc; done
     | refine EvOps.step (n := 0) rfl ?_
       first | refine EvOps.ldL rfl rfl rfl ?_ | refine EvOps.ldLm rfl rfl rfl (by simp only [List.length_set, S2_len]) ?_ | refine EvOps.ldH rfl rfl (by assumption) ?_ | refine EvOps.step (n := 0) rfl ?_
       refine EvOps.step (n := 0) rfl ?_
       refine EvOps.step (n := 0) rfl ?_
       refine EvOps.step (n := 0) rfl ?_
       refine EvOps.step (n := 0) rfl ?_
       refine EvOps.step (n := 0) rfl ?_
       refine EvOps.step (n := 0) rfl ?_
       first | refine EvOps.ldL rfl rfl rfl ?_ | refine EvOps.ldLm rfl rfl rfl (by simp only [List.length_set, S2_len]) ?_ | refine EvOps.ldH rfl rfl (by assumption) ?_ | refine EvOps.step (n := 0) rfl ?_
       refine EvOps.step (n := 0) rfl ?_
       refine EvOps.step (n := 0) rfl ?_
       refine EvOps.step (n := 0) rfl ?_
       refine EvOps.step (n := 0) rfl ?_
       refine EvOps.step (n := 0) rfl ?_
       refine EvOps.step (n := 0) rfl ?_
       first | refine EvOps.ldL rfl rfl rfl ?_ | refine EvOps.ldLm rfl rfl rfl (by simp only [List.length_set, S2_len]) ?_ | refine EvOps.ldH rfl rfl (by assumption) ?_ | refine EvOps.step (n := 0) rfl ?_
       refine EvOps.step (n := 0) rfl ?_
       refine EvOps.step (n := 0) rfl ?_
       first | refine EvOps.subI rfl rfl (by omega) ?_ | refine EvOps.step (n := 0) rfl ?_
       refine EvOps.step (n := 0) rfl ?_
       refine EvOps.step (n := 0) rfl ?_
       refine EvOps.step (n := 0) rfl ?_
       refine EvOps.step (n := 0) rfl ?_
       first | refine EvOps.ldL rfl rfl rfl ?_ | refine EvOps.ldLm rfl rfl rfl (by simp only [List.length_set, S2_len]) ?_ | refine EvOps.ldH rfl rfl (by assumption) ?_ | refine EvOps.step (n := 0) rfl ?_
       refine EvOps.step (n := 0) rfl ?_
       refine EvOps.step (n := 0) rfl ?_
       refine EvOps.step (n := 0) rfl ?_
       refine EvOps.step (n := 0) rfl ?_
       first | refine EvOps.ldL rfl rfl rfl ?_ | refine EvOps.ldLm rfl rfl rfl (by simp only [List.length_set, S2_len]) ?_ | refine EvOps.ldH rfl rfl (by assumption) ?_ | refine EvOps.step (n := 0) rfl ?_
       refine EvOps.step (n := 0) rfl ?_
       refine EvOps.step (n := 0) rfl ?_
       refine EvOps.step (n := 0) rfl ?_
       refine EvOps.nil ?_
       simp only [KP, KH, KC, ↓reduceIte, Nat.reduceEqDiff, Nat.reduceAdd]
       refine EvC.ret ?_
       refine Res.finR rfl ?_
       refine ⟨List.prefix_append _ _, rfl, ?_⟩
       refine Eq.subst (motive := fun t => Q (.b t) h) (?_ : s.ok = _) hq
       unfold Str.ok
       simp_all <;> omega
/-- spec.l08Is -/
theorem w43 {r1 r2 r3 r4 : Option Ref} {c1 c2 c3 c4 : Nat} {g1 g2 g3 g4 : Option Nat} {s : Str} {bs : Nat} {md : Md} (hb : h[bs]? = some ⟨[.sl r1 s.pts.length c1 g1, .sl r2 s.bef.length c2 g2, .sl r3 s.fixed.length c3 g3, .sl r4 s.lens.length c4 g4, f32 s.fall.x, f32 s.fall.y, f32 s.fall.z, f32 s.damp, i64 s.passes], md⟩) (hd : md ≠ .dead) (hs : s.pts.length < 2 ^ 40) (hq : Q (.b s.ok) h) : W Φ 43 [.p (some ⟨bs, 0⟩)] h Q := by
  have r0 : rd h ((⟨bs, 0⟩ : Ref).add 0) = some (.sl r1 s.pts.length c1 g1) := rd_block hb hd rfl
  have r1 : rd h ((⟨bs, 0⟩ : Ref).add 1) = some (.sl r2 s.bef.length c2 g2) := rd_block hb hd rfl
  have r2 : rd h ((⟨bs, 0⟩ : Ref).add 2) = some (.sl r3 s.fixed.length c3 g3) := rd_block hb hd rfl
  have r3 : rd h ((⟨bs, 0⟩ : Ref).add 3) = some (.sl r4 s.lens.length c4 g4) := rd_block hb hd rfl
  have r8 : rd h ((⟨bs, 0⟩ : Ref).add 8) = some (i64 s.passes) := rd_block hb hd rfl
  refine W.dropL (F := F43) rfl ?_
  refine EvC.seq ?_
  refine EvC.reg ?_
  refine EvOps.step (n := 0) rfl ?_
  refine EvOps.nil ?_
  simp only [KP, KH, KC, ↓reduceIte, Nat.reduceEqDiff, Nat.reduceAdd]
  refine EvC.seq ?_
  refine EvC.reg ?_
  refine EvOps.step (n := 0) rfl ?_
  refine EvOps.step (n := 0) rfl ?_
  refine EvOps.step (n := 0) rfl ?_
  first | refine EvOps.ldL rfl rfl rfl ?_ | refine EvOps.ldLm rfl rfl rfl (by simp only [List.length_set, S2_len]) ?_ | refine EvOps.ldH rfl rfl (by assumption) ?_
  refine EvOps.step (n := 0) rfl ?_
  refine EvOps.step (n := 0) rfl ?_
  refine EvOps.nil ?_
  simp only [KP, KH, KC, ↓reduceIte, Nat.reduceEqDiff, Nat.reduceAdd]
  refine EvC.seq ?_
  refine EvC.reg ?_
  refine EvOps.step (n := 0) rfl ?_
  refine EvOps.step (n := 0) rfl ?_
  refine EvOps.step (n := 0) rfl ?_
  first | refine EvOps.ldL rfl rfl rfl ?_ | refine EvOps.ldLm rfl rfl rfl (by simp only [List.length_set, S2_len]) ?_ | refine EvOps.ldH rfl rfl (by assumption) ?_
  refine EvOps.call rfl rfl ?_
  refine w77 ?_
  refine EvOps.stepB (n := 0) rfl (fun hc => ?_) (fun hc => ?_)
  · first
     | cases hc; done
     | refine EvOps.step (n := 0) rfl ?_
       refine EvOps.step (n := 0) rfl ?_
       refine EvOps.step (n := 0) rfl ?_
       first | refine EvOps.ldL rfl rfl rfl ?_ | refine EvOps.ldLm rfl rfl rfl (by simp only [List.length_set, S2_len]) ?_ | refine EvOps.ldH rfl rfl (by assumption) ?_ | refine EvOps.step (n := 0) rfl ?_
       refine EvOps.step (n := 0) rfl ?_
       refine EvOps.step (n := 0) rfl ?_
       refine EvOps.step (n := 0) rfl ?_
       refine EvOps.step (n := 0) rfl ?_
       refine EvOps.stepB (n := 0) rfl (fun hc => ?_) (fun hc => ?_)
       · first
          | cases hc; done
          | refine EvOps.step (n := 0) rfl ?_
            refine EvOps.step (n := 0) rfl ?_
            refine EvOps.step (n := 0) rfl ?_
            first | refine EvOps.ldL rfl rfl rfl ?_ | refine EvOps.ldLm rfl rfl rfl (by simp only [List.length_set, S2_len]) ?_ | refine EvOps.ldH rfl rfl (by assumption) ?_ | refine EvOps.step (n := 0) rfl ?_
            refine EvOps.step (n := 0) rfl ?_
            refine EvOps.step (n := 0) rfl ?_
            refine EvOps.step (n := 0) rfl ?_
            refine EvOps.step (n := 0) rfl ?_
            refine EvOps.stepB (n := 0) rfl (fun hc => ?_) (fun hc => ?_)
            · first
               | cases hc; done
               | refine EvOps.step (n := 0) rfl ?_
                 refine EvOps.step (n := 0) rfl ?_
                 refine EvOps.step (n := 0) rfl ?_
                 first | refine EvOps.ldL rfl rfl rfl ?_ | refine EvOps.ldLm rfl rfl rfl (by simp only [List.length_set, S2_len]) ?_ | refine EvOps.ldH rfl rfl (by assumption) ?_ | refine EvOps.step (n := 0) rfl ?_
                 refine EvOps.step (n := 0) rfl ?_
                 refine EvOps.step (n := 0) rfl ?_
                 first | refine EvOps.subI rfl rfl (by omega) ?_ | refine EvOps.step (n := 0) rfl ?_
                 refine EvOps.step (n := 0) rfl ?_
                 refine EvOps.step (n := 0) rfl ?_
                 refine EvOps.stepB (n := 0) rfl (fun hc => ?_) (fun hc => ?_)
                 · first
                    | cases hc; done
                    | refine EvOps.step (n := 0) rfl ?_
                      refine EvOps.step (n := 0) rfl ?_
                      refine EvOps.step (n := 0) rfl ?_
                      first | refine EvOps.ldL rfl rfl rfl ?_ | refine EvOps.ldLm rfl rfl rfl (by simp only [List.length_set, S2_len]) ?_ | refine EvOps.ldH rfl rfl (by assumption) ?_ | refine EvOps.step (n := 0) rfl ?_
                      first
                       | (refine EvOps.call rfl rfl ?_; refine w60 ?_)
                       | refine EvOps.step (n := 0) rfl ?_
                      refine EvOps.step (n := 0) rfl ?_
                      refine EvOps.step (n := 0) rfl ?_
                      refine EvOps.nil ?_
                      simp only [KP, KH, KC, ↓reduceIte, Nat.reduceEqDiff, Nat.reduceAdd]
                      refine EvC.ret ?_
                      refine Res.finR rfl ?_
                      refine ⟨List.prefix_append _ _, rfl, ?_⟩
                      refine Eq.subst (motive := fun t => Q (.b t) h) (?_ : s.ok = _) hq
                      unfold Str.ok
                      simp_all <;> omega
                 · first
                    | cases hc; done
                    | refine EvOps.step (n := 0) rfl ?_
                      refine EvOps.step (n := 0) rfl ?_
                      refine EvOps.step (n := 0) rfl ?_
                      first | refine EvOps.ldL rfl rfl rfl ?_ | refine EvOps.ldLm rfl rfl rfl (by simp only [List.length_set, S2_len]) ?_ | refine EvOps.ldH rfl rfl (by assumption) ?_ | refine EvOps.step (n := 0) rfl ?_
                      first
                       | (refine EvOps.call rfl rfl ?_; refine w60 ?_)
                       | refine EvOps.step (n := 0) rfl ?_
                      refine EvOps.step (n := 0) rfl ?_
                      refine EvOps.step (n := 0) rfl ?_
                      refine EvOps.nil ?_
                      simp only [KP, KH, KC, ↓reduceIte, Nat.reduceEqDiff, Nat.reduceAdd]
                      refine EvC.ret ?_
                      refine Res.finR rfl ?_
                      refine ⟨List.prefix_append _ _, rfl, ?_⟩
                      refine Eq.subst (motive := fun t => Q (.b t) h) (?_ : s.ok = _) hq
                      unfold Str.ok
                      simp_all <;> omega
            · first
               | cases hc; done
               | refine EvOps.step (n := 0) rfl ?_
                 refine EvOps.step (n := 0) rfl ?_
                 refine EvOps.step (n := 0) rfl ?_
                 first | refine EvOps.ldL rfl rfl rfl ?_ | refine EvOps.ldLm rfl rfl rfl (by simp only [List.length_set, S2_len]) ?_ | refine EvOps.ldH rfl rfl (by assumption) ?_ | refine EvOps.step (n := 0) rfl ?_
                 refine EvOps.step (n := 0) rfl ?_
                 refine EvOps.step (n := 0) rfl ?_
                 first | refine EvOps.subI rfl rfl (by omega) ?_ | refine EvOps.step (n := 0) rfl ?_
                 refine EvOps.step (n := 0) rfl ?_
                 refine EvOps.step (n := 0) rfl ?_
                 refine EvOps.step (n := 0) rfl ?_
                 refine EvOps.step (n := 0) rfl ?_
                 refine EvOps.step (n := 0) rfl ?_
                 refine EvOps.step (n := 0) rfl ?_
                 first | refine EvOps.ldL rfl rfl rfl ?_ | refine EvOps.ldLm rfl rfl rfl (by simp only [List.length_set, S2_len]) ?_ | refine EvOps.ldH rfl rfl (by assumption) ?_ | refine EvOps.step (n := 0) rfl ?_
                 first
                  | (refine EvOps.call rfl rfl ?_; refine w60 ?_)
                  | refine EvOps.step (n := 0) rfl ?_
                 refine EvOps.step (n := 0) rfl ?_
                 refine EvOps.step (n := 0) rfl ?_
                 refine EvOps.nil ?_
                 simp only [KP, KH, KC, ↓reduceIte, Nat.reduceEqDiff, Nat.reduceAdd]
                 refine EvC.ret ?_
                 refine Res.finR rfl ?_
                 refine ⟨List.prefix_append _ _, rfl, ?_⟩
                 refine Eq.subst (motive := fun t => Q (.b t) h) (?_ : s.ok = _) hq
                 unfold Str.ok
                 simp_all <;> omega
       · first
          | cases hc; done
          | refine EvOps.step (n := 0) rfl ?_
            refine EvOps.step (n := 0) rfl ?_
            refine EvOps.step (n := 0) rfl ?_
            first | refine EvOps.ldL rfl rfl rfl ?_ | refine EvOps.ldLm rfl rfl rfl (by simp only [List.length_set, S2_len]) ?_ | refine EvOps.ldH rfl rfl (by assumption) ?_ | refine EvOps.step (n := 0) rfl ?_
            refine EvOps.step (n := 0) rfl ?_
            refine EvOps.step (n := 0) rfl ?_
            refine EvOps.step (n := 0) rfl ?_
            refine EvOps.step (n := 0) rfl ?_
            refine EvOps.step (n := 0) rfl ?_
            refine EvOps.step (n := 0) rfl ?_
            refine EvOps.step (n := 0) rfl ?_
            refine EvOps.step (n := 0) rfl ?_
            first | refine EvOps.ldL rfl rfl rfl ?_ | refine EvOps.ldLm rfl rfl rfl (by simp only [List.length_set, S2_len]) ?_ | refine EvOps.ldH rfl rfl (by assumption) ?_ | refine EvOps.step (n := 0) rfl ?_
            refine EvOps.step (n := 0) rfl ?_
            refine EvOps.step (n := 0) rfl ?_
            first | refine EvOps.subI rfl rfl (by omega) ?_ | refine EvOps.step (n := 0) rfl ?_
            refine EvOps.step (n := 0) rfl ?_
            refine EvOps.step (n := 0) rfl ?_
            refine EvOps.step (n := 0) rfl ?_
            refine EvOps.step (n := 0) rfl ?_
            refine EvOps.step (n := 0) rfl ?_
            refine EvOps.step (n := 0) rfl ?_
            first | refine EvOps.ldL rfl rfl rfl ?_ | refine EvOps.ldLm rfl rfl rfl (by simp only [List.length_set, S2_len]) ?_ | refine EvOps.ldH rfl rfl (by assumption) ?_ | refine EvOps.step (n := 0) rfl ?_
            first
             | (refine EvOps.call rfl rfl ?_; refine w60 ?_)
             | refine EvOps.step (n := 0) rfl ?_
            refine EvOps.step (n := 0) rfl ?_
            refine EvOps.step (n := 0) rfl ?_
            refine EvOps.nil ?_
            simp only [KP, KH, KC, ↓reduceIte, Nat.reduceEqDiff, Nat.reduceAdd]
            refine EvC.ret ?_
            refine Res.finR rfl ?_
            refine ⟨List.prefix_append _ _, rfl, ?_⟩
            refine Eq.subst (motive := fun t => Q (.b t) h) (?_ : s.ok = _) hq
            unfold Str.ok
            simp_all <;> omega
  · first
     | cases hc; done
     | refine EvOps.step (n := 0) rfl ?_
       refine EvOps.step (n := 0) rfl ?_
       refine EvOps.step (n := 0) rfl ?_
       first | refine EvOps.ldL rfl rfl rfl ?_ | refine EvOps.ldLm rfl rfl rfl (by simp only [List.length_set, S2_len]) ?_ | refine EvOps.ldH rfl rfl (by assumption) ?_ | refine EvOps.step (n := 0) rfl ?_
       refine EvOps.step (n := 0) rfl ?_
       refine EvOps.step (n := 0) rfl ?_
       refine EvOps.step (n := 0) rfl ?_
       refine EvOps.step (n := 0) rfl ?_
       refine EvOps.step (n := 0) rfl ?_
       refine EvOps.step (n := 0) rfl ?_
       refine EvOps.step (n := 0) rfl ?_
       refine EvOps.step (n := 0) rfl ?_
       first | refine EvOps.ldL rfl rfl rfl ?_ | refine EvOps.ldLm rfl rfl rfl (by simp only [List.length_set, S2_len]) ?_ | refine EvOps.ldH rfl rfl (by assumption) ?_ | refine EvOps.step (n := 0) rfl ?_
       refine EvOps.step (n := 0) rfl ?_
       refine EvOps.step (n := 0) rfl ?_
       refine EvOps.step (n := 0) rfl ?_
       refine EvOps.step (n := 0) rfl ?_
       refine EvOps.step (n := 0) rfl ?_
       refine EvOps.step (n := 0) rfl ?_
       refine EvOps.step (n := 0) rfl ?_
       refine EvOps.step (n := 0) rfl ?_
       first | refine EvOps.ldL rfl rfl rfl ?_ | refine EvOps.ldLm rfl rfl rfl (by simp only [List.length_set, S2_len]) ?_ | refine EvOps.ldH rfl rfl (by assumption) ?_ | refine EvOps.step (n := 0) rfl ?_
       refine EvOps.step (n := 0) rfl ?_
       refine EvOps.step (n := 0) rfl ?_
       first | refine EvOps.subI rfl rfl (by omega) ?_ | refine EvOps.step (n := 0) rfl ?_
       refine EvOps.step (n := 0) rfl ?_
       refine EvOps.step (n := 0) rfl ?_
       refine EvOps.step (n := 0) rfl ?_
       refine EvOps.step (n := 0) rfl ?_
       refine EvOps.step (n := 0) rfl ?_
       refine EvOps.step (n := 0) rfl ?_
       first | refine EvOps.ldL rfl rfl rfl ?_ | refine EvOps.ldLm rfl rfl rfl (by simp only [List.length_set, S2_len]) ?_ | refine EvOps.ldH rfl rfl (by assumption) ?_ | refine EvOps.step (n := 0) rfl ?_
       first
        | (refine EvOps.call rfl rfl ?_; refine w60 ?_)
        | refine EvOps.step (n := 0) rfl ?_
       refine EvOps.step (n := 0) rfl ?_
       refine EvOps.step (n := 0) rfl ?_
       refine EvOps.nil ?_
       simp only [KP, KH, KC, ↓reduceIte, Nat.reduceEqDiff, Nat.reduceAdd]
       refine EvC.ret ?_
       refine Res.finR rfl ?_
       refine ⟨List.prefix_append _ _, rfl, ?_⟩
       refine Eq.subst (motive := fun t => Q (.b t) h) (?_ : s.ok = _) hq
       unfold Str.ok
       simp_all <;> omega
end
end Go.V.Try
