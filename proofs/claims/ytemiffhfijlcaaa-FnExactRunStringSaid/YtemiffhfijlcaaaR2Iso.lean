import Derived.Test.YtemiffhfijlcaaaR2Phi
import Derived.Test.YtemiffhfijlcaaaVData
set_option linter.unusedSimpArgs false
set_option linter.unusedVariables false
set_option linter.unusedSectionVars false
/-! Functions of values. -/
namespace Go.V.Try
open Go Go.V
section
variable {h : H} {Q : AV → H → Prop}
/-- impl.AddVectors -/
theorem w69 {u v : Vec} (hq : Q (u.add v).av h) : W Φ 69 [u.av, v.av] h Q := W.run 3 rfl hq
/-- spec.l01Add -/
theorem w78 {u v : Vec} (hq : Q (u.add v).av h) : W Φ 78 [u.av, v.av] h Q := W.run 3 rfl hq
/-- impl.LessVectors -/
theorem w71 {u v : Vec} (hq : Q (u.sub v).av h) : W Φ 71 [u.av, v.av] h Q := W.run 3 rfl hq
/-- spec.l01Less -/
theorem w80 {u v : Vec} (hq : Q (u.sub v).av h) : W Φ 80 [u.av, v.av] h Q := W.run 3 rfl hq
/-- impl.ScaleVector -/
theorem w70 {u : Vec} {k : Nat} (hq : Q (u.scale k).av h) : W Φ 70 [u.av, f32 k] h Q := W.run 3 rfl hq
/-- spec.l01Scale -/
theorem w79 {u : Vec} {k : Nat} (hq : Q (u.scale k).av h) : W Φ 79 [u.av, f32 k] h Q := W.run 3 rfl hq
/-- impl.InnerOf -/
theorem w89 {u v : Vec} (hq : Q (f32 (u.inner v)) h) : W Φ 89 [u.av, v.av] h Q := W.run 3 rfl hq
/-- spec.l01Inner -/
theorem w99 {u v : Vec} (hq : Q (f32 (u.inner v)) h) : W Φ 99 [u.av, v.av] h Q := W.run 3 rfl hq
/-- laws.toVector -/
theorem w48 {u : Vec} (hq : Q u.av h) : W Φ 48 [u.av] h Q := W.run 3 rfl hq
/-- math.Sqrt -/
theorem w97 {x : Nat} (hq : Q (f64 (fsqrt .f64 x)) h) : W Φ 97 [f64 x] h Q := W.run 4 rfl hq
/-- spec.l00In -/
theorem w60 {x lo hi : Int} (hq : Q (.b (decide (lo ≤ x) && decide (x ≤ hi))) h) : W Φ 60 [i64 x, i64 lo, i64 hi] h Q := by
  refine W.isoL (F := F60) rfl rfl ?_
  refine EvC.seq ?_
  refine EvC.reg ?_
  refine EvOps.step (n := 0) rfl ?_
  refine EvOps.nil ?_
  simp only [KP, KH, KC, ↓reduceIte, Nat.reduceEqDiff, Nat.reduceAdd]
  refine EvC.seq ?_
  refine EvC.reg ?_
  refine EvOps.step (n := 0) rfl ?_
  refine EvOps.step (n := 0) rfl ?_
  refine EvOps.step (n := 0) rfl ?_
  refine EvOps.stepB (n := 0) rfl (fun hc => ?_) (fun hc => ?_)
  · first
     | cases hc; done
     | refine EvOps.step (n := 0) rfl ?_
       refine EvOps.step (n := 0) rfl ?_
       refine EvOps.step (n := 0) rfl ?_
       refine EvOps.step (n := 0) rfl ?_
       refine EvOps.step (n := 0) rfl ?_
       refine EvOps.nil ?_
       simp only [KP, KH, KC, ↓reduceIte, Nat.reduceEqDiff, Nat.reduceAdd]
       refine EvC.ret ?_
       refine Res.finR rfl ?_
       (refine ⟨rfl, ?_⟩; simp_all [pack])
  · first
     | cases hc; done
     | refine EvOps.step (n := 0) rfl ?_
       refine EvOps.step (n := 0) rfl ?_
       refine EvOps.step (n := 0) rfl ?_
       refine EvOps.step (n := 0) rfl ?_
       refine EvOps.step (n := 0) rfl ?_
       refine EvOps.nil ?_
       simp only [KP, KH, KC, ↓reduceIte, Nat.reduceEqDiff, Nat.reduceAdd]
       refine EvC.ret ?_
       refine Res.finR rfl ?_
       (refine ⟨rfl, ?_⟩; simp_all [pack])
/-- impl.isMoves -/
theorem w26 {x : Int} (hq : Q (.b (decide (0 ≤ x) && decide (x ≤ 1000))) h) : W Φ 26 [i64 x] h Q := by
  refine W.isoL (F := F26) rfl rfl ?_
  refine EvC.seq ?_
  refine EvC.reg ?_
  refine EvOps.step (n := 0) rfl ?_
  refine EvOps.nil ?_
  simp only [KP, KH, KC, ↓reduceIte, Nat.reduceEqDiff, Nat.reduceAdd]
  refine EvC.seq ?_
  refine EvC.reg ?_
  refine EvOps.step (n := 0) rfl ?_
  refine EvOps.step (n := 0) rfl ?_
  refine EvOps.stepB (n := 0) rfl (fun hc => ?_) (fun hc => ?_)
  · first
     | cases hc; done
     | refine EvOps.step (n := 0) rfl ?_
       refine EvOps.step (n := 0) rfl ?_
       refine EvOps.step (n := 0) rfl ?_
       refine EvOps.step (n := 0) rfl ?_
       refine EvOps.nil ?_
       simp only [KP, KH, KC, ↓reduceIte, Nat.reduceEqDiff, Nat.reduceAdd]
       refine EvC.ret ?_
       refine Res.finR rfl ?_
       (refine ⟨rfl, ?_⟩; simp_all [pack])
  · first
     | cases hc; done
     | refine EvOps.step (n := 0) rfl ?_
       refine EvOps.step (n := 0) rfl ?_
       refine EvOps.step (n := 0) rfl ?_
       refine EvOps.step (n := 0) rfl ?_
       refine EvOps.nil ?_
       simp only [KP, KH, KC, ↓reduceIte, Nat.reduceEqDiff, Nat.reduceAdd]
       refine EvC.ret ?_
       refine Res.finR rfl ?_
       (refine ⟨rfl, ?_⟩; simp_all [pack])
/-- impl.IsFinite -/
theorem w96 {x : Nat} (hq : Q (.b (fin32 x)) h) : W Φ 96 [f32 x] h Q := W.run 3 rfl hq
/-- spec.l01Finite -/
theorem w92 {x : Nat} (hq : Q (.b (fin32 x)) h) : W Φ 92 [f32 x] h Q := W.run 3 rfl hq
/-- impl.isLength -/
theorem w84 {x : Nat} (hq : Q (.b (fin32 x && !eq32 x 0)) h) : W Φ 84 [f32 x] h Q := by
  refine W.isoL (F := F84) rfl rfl ?_
  refine EvC.seq ?_
  refine EvC.reg ?_
  refine EvOps.step (n := 0) rfl ?_
  refine EvOps.nil ?_
  simp only [KP, KH, KC, ↓reduceIte, Nat.reduceEqDiff, Nat.reduceAdd]
  refine EvC.seq ?_
  refine EvC.reg ?_
  refine EvOps.step (n := 0) rfl ?_
  refine EvOps.call rfl rfl ?_
  refine w96 ?_
  refine EvOps.stepB (n := 0) rfl (fun hc => ?_) (fun hc => ?_)
  · first
     | cases hc; done
     | refine EvOps.step (n := 0) rfl ?_
       refine EvOps.step (n := 0) rfl ?_
       refine EvOps.step (n := 0) rfl ?_
       refine EvOps.step (n := 0) rfl ?_
       refine EvOps.nil ?_
       simp only [KP, KH, KC, ↓reduceIte, Nat.reduceEqDiff, Nat.reduceAdd]
       refine EvC.ret ?_
       refine Res.finR rfl ?_
       (refine ⟨rfl, ?_⟩; simp_all [pack, eq32, bne])
  · first
     | cases hc; done
     | refine EvOps.step (n := 0) rfl ?_
       refine EvOps.step (n := 0) rfl ?_
       refine EvOps.step (n := 0) rfl ?_
       refine EvOps.step (n := 0) rfl ?_
       refine EvOps.nil ?_
       simp only [KP, KH, KC, ↓reduceIte, Nat.reduceEqDiff, Nat.reduceAdd]
       refine EvC.ret ?_
       refine Res.finR rfl ?_
       (refine ⟨rfl, ?_⟩; simp_all [pack, eq32, bne])
/-- impl.RootNumber -/
theorem w88 {x : Nat} (hq : Q (f32 (root32 x)) h) : W Φ 88 [f32 x] h Q := by
  refine W.isoL (F := F88) rfl rfl ?_
  refine EvC.seq ?_
  refine EvC.reg ?_
  refine EvOps.step (n := 0) rfl ?_
  refine EvOps.nil ?_
  simp only [KP, KH, KC, ↓reduceIte, Nat.reduceEqDiff, Nat.reduceAdd]
  refine EvC.seq ?_
  refine EvC.reg ?_
  refine EvOps.step (n := 0) rfl ?_
  first | refine EvOps.cvtUp rfl rfl ?_ | refine EvOps.step (n := 0) rfl ?_
  refine EvOps.call rfl rfl ?_
  refine w97 ?_
  first | refine EvOps.cvtRoot rfl rfl ?_ | refine EvOps.step (n := 0) rfl ?_
  refine EvOps.step (n := 0) rfl ?_
  refine EvOps.nil ?_
  simp only [KP, KH, KC, ↓reduceIte, Nat.reduceEqDiff, Nat.reduceAdd]
  refine EvC.ret ?_
  refine Res.finR rfl ?_
  exact ⟨rfl, hq⟩
/-- spec.l01Narrow -/
theorem w102 {x : Nat} (hq : Q (f32 (root32 x)) h) : W Φ 102 [f64 (fsqrt .f64 (up x))] h Q := by
  refine W.isoL (F := F102) rfl rfl ?_
  refine EvC.seq ?_
  refine EvC.reg ?_
  refine EvOps.step (n := 0) rfl ?_
  refine EvOps.nil ?_
  simp only [KP, KH, KC, ↓reduceIte, Nat.reduceEqDiff, Nat.reduceAdd]
  refine EvC.seq ?_
  refine EvC.reg ?_
  refine EvOps.step (n := 0) rfl ?_
  first | refine EvOps.cvtRoot rfl rfl ?_ | refine EvOps.step (n := 0) rfl ?_
  refine EvOps.step (n := 0) rfl ?_
  refine EvOps.nil ?_
  simp only [KP, KH, KC, ↓reduceIte, Nat.reduceEqDiff, Nat.reduceAdd]
  refine EvC.ret ?_
  refine Res.finR rfl ?_
  exact ⟨rfl, hq⟩
/-- spec.l01Sqrt -/
theorem w98 {x : Nat} (hq : Q (f32 (root32 x)) h) : W Φ 98 [f32 x] h Q := by
  refine W.isoL (F := F98) rfl rfl ?_
  refine EvC.seq ?_
  refine EvC.reg ?_
  refine EvOps.step (n := 0) rfl ?_
  refine EvOps.nil ?_
  simp only [KP, KH, KC, ↓reduceIte, Nat.reduceEqDiff, Nat.reduceAdd]
  refine EvC.seq ?_
  refine EvC.reg ?_
  refine EvOps.step (n := 0) rfl ?_
  first | refine EvOps.cvtUp rfl rfl ?_ | refine EvOps.step (n := 0) rfl ?_
  refine EvOps.call rfl rfl ?_
  refine w97 ?_
  refine EvOps.call rfl rfl ?_
  refine w102 ?_
  refine EvOps.step (n := 0) rfl ?_
  refine EvOps.nil ?_
  simp only [KP, KH, KC, ↓reduceIte, Nat.reduceEqDiff, Nat.reduceAdd]
  refine EvC.ret ?_
  refine Res.finR rfl ?_
  exact ⟨rfl, hq⟩
/-- impl.LongOf -/
theorem w75 {u : Vec} (hq : Q (f32 (root32 (u.inner u))) h) : W Φ 75 [u.av] h Q := by
  refine W.isoL (F := F75) rfl rfl ?_
  refine EvC.seq ?_
  refine EvC.reg ?_
  refine EvOps.boxL rfl rfl rfl rfl rfl ?_
  refine EvOps.step (n := 0) rfl ?_
  refine EvOps.nil ?_
  simp only [KP, KH, KC, ↓reduceIte, Nat.reduceEqDiff, Nat.reduceAdd]
  refine EvC.seq ?_
  refine EvC.reg ?_
  first | refine EvOps.ldnL rfl rfl rfl ?_ | refine EvOps.ldnLm rfl rfl rfl (by simp only [List.length_set, S2_len]) ?_ | refine EvOps.ldnH rfl rfl (by assumption) ?_
  first | refine EvOps.ldnL rfl rfl rfl ?_ | refine EvOps.ldnLm rfl rfl rfl (by simp only [List.length_set, S2_len]) ?_ | refine EvOps.ldnH rfl rfl (by assumption) ?_
  refine EvOps.call rfl rfl ?_
  refine w89 (u := u) (v := u) ?_
  refine EvOps.call rfl rfl ?_
  refine w88 ?_
  refine EvOps.step (n := 0) rfl ?_
  refine EvOps.nil ?_
  simp only [KP, KH, KC, ↓reduceIte, Nat.reduceEqDiff, Nat.reduceAdd]
  refine EvC.ret ?_
  refine Res.finR rfl ?_
  exact ⟨rfl, hq⟩
/-- spec.l01Long -/
theorem w91 {u : Vec} (hq : Q (f32 (root32 (u.inner u))) h) : W Φ 91 [u.av] h Q := by
  refine W.isoL (F := F91) rfl rfl ?_
  refine EvC.seq ?_
  refine EvC.reg ?_
  refine EvOps.boxL rfl rfl rfl rfl rfl ?_
  refine EvOps.step (n := 0) rfl ?_
  refine EvOps.nil ?_
  simp only [KP, KH, KC, ↓reduceIte, Nat.reduceEqDiff, Nat.reduceAdd]
  refine EvC.seq ?_
  refine EvC.reg ?_
  first | refine EvOps.ldnL rfl rfl rfl ?_ | refine EvOps.ldnLm rfl rfl rfl (by simp only [List.length_set, S2_len]) ?_ | refine EvOps.ldnH rfl rfl (by assumption) ?_
  first | refine EvOps.ldnL rfl rfl rfl ?_ | refine EvOps.ldnLm rfl rfl rfl (by simp only [List.length_set, S2_len]) ?_ | refine EvOps.ldnH rfl rfl (by assumption) ?_
  refine EvOps.call rfl rfl ?_
  refine w99 (u := u) (v := u) ?_
  refine EvOps.call rfl rfl ?_
  refine w98 ?_
  refine EvOps.step (n := 0) rfl ?_
  refine EvOps.nil ?_
  simp only [KP, KH, KC, ↓reduceIte, Nat.reduceEqDiff, Nat.reduceAdd]
  refine EvC.ret ?_
  refine Res.finR rfl ?_
  exact ⟨rfl, hq⟩
/-- laws.sameFloat -/
theorem w53 {x : Nat} (hq : Q (.b true) h) : W Φ 53 [f64 x, f64 x] h Q := by
  refine W.isoL (F := F53) rfl rfl ?_
  refine EvC.seq ?_
  refine EvC.reg ?_
  refine EvOps.step (n := 0) rfl ?_
  refine EvOps.nil ?_
  simp only [KP, KH, KC, ↓reduceIte, Nat.reduceEqDiff, Nat.reduceAdd]
  refine EvC.seq ?_
  refine EvC.seq ?_
  refine EvC.reg ?_
  refine EvOps.step (n := 0) rfl ?_
  refine EvOps.step (n := 0) rfl ?_
  refine EvOps.step (n := 0) rfl ?_
  refine EvOps.stepB (n := 0) rfl (fun hc => ?_) (fun hc => ?_)
  · first
     | cases hc; done
     | refine EvOps.step (n := 0) rfl ?_
       refine EvOps.step (n := 0) rfl ?_
       refine EvOps.step (n := 0) rfl ?_
       refine EvOps.step (n := 0) rfl ?_
       refine EvOps.nil ?_
       simp only [KP, KH, KC, ↓reduceIte, Nat.reduceEqDiff, Nat.reduceAdd]
       refine EvC.condY rfl ?_
       refine EvC.seq ?_
       refine EvC.reg ?_
       refine EvOps.step (n := 0) rfl ?_
       refine EvOps.step (n := 0) rfl ?_
       refine EvOps.step (n := 0) rfl ?_
       refine EvOps.stepB (n := 0) rfl (fun hc => ?_) (fun hc => ?_)
       · first
          | cases hc; done
          | refine EvOps.step (n := 0) rfl ?_
            refine EvOps.step (n := 0) rfl ?_
            refine EvOps.step (n := 0) rfl ?_
            refine EvOps.step (n := 0) rfl ?_
            refine EvOps.step (n := 0) rfl ?_
            refine EvOps.nil ?_
            simp only [KP, KH, KC, ↓reduceIte, Nat.reduceEqDiff, Nat.reduceAdd]
            refine EvC.ret ?_
            refine Res.finR rfl ?_
            refine ⟨rfl, ?_⟩
            have hb : ∀ t : Bool, (FloatKind.f64.format.order x x == some Ordering.eq) = t → True := fun _ _ => trivial
            simp only [bne] at *
            generalize (FloatKind.f64.format.order x x == some Ordering.eq) = t at *
            clear hb
            cases t <;> simp_all [pack]
       · first
          | cases hc; done
          | refine EvOps.step (n := 0) rfl ?_
            refine EvOps.step (n := 0) rfl ?_
            refine EvOps.step (n := 0) rfl ?_
            refine EvOps.step (n := 0) rfl ?_
            refine EvOps.step (n := 0) rfl ?_
            refine EvOps.nil ?_
            simp only [KP, KH, KC, ↓reduceIte, Nat.reduceEqDiff, Nat.reduceAdd]
            refine EvC.ret ?_
            refine Res.finR rfl ?_
            refine ⟨rfl, ?_⟩
            have hb : ∀ t : Bool, (FloatKind.f64.format.order x x == some Ordering.eq) = t → True := fun _ _ => trivial
            simp only [bne] at *
            generalize (FloatKind.f64.format.order x x == some Ordering.eq) = t at *
            clear hb
            cases t <;> simp_all [pack]
  · first
     | cases hc; done
     | refine EvOps.step (n := 0) rfl ?_
       refine EvOps.step (n := 0) rfl ?_
       refine EvOps.step (n := 0) rfl ?_
       refine EvOps.step (n := 0) rfl ?_
       refine EvOps.nil ?_
       simp only [KP, KH, KC, ↓reduceIte, Nat.reduceEqDiff, Nat.reduceAdd]
       refine EvC.condS rfl (fun hc => ?_) (fun hc => ?_)
       · first
          | cases hc; done
          | refine EvC.seq ?_
            refine EvC.reg ?_
            refine EvOps.step (n := 0) rfl ?_
            refine EvOps.step (n := 0) rfl ?_
            refine EvOps.step (n := 0) rfl ?_
            refine EvOps.stepB (n := 0) rfl (fun hc => ?_) (fun hc => ?_)
            · first
               | cases hc; done
               | refine EvOps.step (n := 0) rfl ?_
                 refine EvOps.step (n := 0) rfl ?_
                 refine EvOps.step (n := 0) rfl ?_
                 refine EvOps.step (n := 0) rfl ?_
                 refine EvOps.step (n := 0) rfl ?_
                 refine EvOps.nil ?_
                 simp only [KP, KH, KC, ↓reduceIte, Nat.reduceEqDiff, Nat.reduceAdd]
                 refine EvC.ret ?_
                 refine Res.finR rfl ?_
                 refine ⟨rfl, ?_⟩
                 have hb : ∀ t : Bool, (FloatKind.f64.format.order x x == some Ordering.eq) = t → True := fun _ _ => trivial
                 simp only [bne] at *
                 generalize (FloatKind.f64.format.order x x == some Ordering.eq) = t at *
                 clear hb
                 cases t <;> simp_all [pack]
            · first
               | cases hc; done
               | refine EvOps.step (n := 0) rfl ?_
                 refine EvOps.step (n := 0) rfl ?_
                 refine EvOps.step (n := 0) rfl ?_
                 refine EvOps.step (n := 0) rfl ?_
                 refine EvOps.step (n := 0) rfl ?_
                 refine EvOps.nil ?_
                 simp only [KP, KH, KC, ↓reduceIte, Nat.reduceEqDiff, Nat.reduceAdd]
                 refine EvC.ret ?_
                 refine Res.finR rfl ?_
                 refine ⟨rfl, ?_⟩
                 have hb : ∀ t : Bool, (FloatKind.f64.format.order x x == some Ordering.eq) = t → True := fun _ _ => trivial
                 simp only [bne] at *
                 generalize (FloatKind.f64.format.order x x == some Ordering.eq) = t at *
                 clear hb
                 cases t <;> simp_all [pack]
       · first
          | cases hc; done
          | refine EvC.skip ?_
            refine EvC.seq ?_
            refine EvC.seq ?_
            refine EvC.reg ?_
            refine EvOps.step (n := 0) rfl ?_
            refine EvOps.step (n := 0) rfl ?_
            refine EvOps.stepB (n := 0) rfl (fun hc => ?_) (fun hc => ?_)
            · first
               | cases hc; done
               | refine EvOps.step (n := 0) rfl ?_
                 refine EvOps.step (n := 0) rfl ?_
                 refine EvOps.step (n := 0) rfl ?_
                 refine EvOps.nil ?_
                 simp only [KP, KH, KC, ↓reduceIte, Nat.reduceEqDiff, Nat.reduceAdd]
                 refine EvC.condS rfl (fun hc => ?_) (fun hc => ?_)
                 · first
                    | cases hc; done
                    | refine EvC.seq ?_
                      refine EvC.reg ?_
                      refine EvOps.step (n := 0) rfl ?_
                      refine EvOps.step (n := 0) rfl ?_
                      refine EvOps.step (n := 0) rfl ?_
                      refine EvOps.step (n := 0) rfl ?_
                      refine EvOps.step (n := 0) rfl ?_
                      refine EvOps.step (n := 0) rfl ?_
                      refine EvOps.step (n := 0) rfl ?_
                      refine EvOps.step (n := 0) rfl ?_
                      refine EvOps.nil ?_
                      simp only [KP, KH, KC, ↓reduceIte, Nat.reduceEqDiff, Nat.reduceAdd]
                      refine EvC.ret ?_
                      refine Res.finR rfl ?_
                      refine ⟨rfl, ?_⟩
                      have hb : ∀ t : Bool, (FloatKind.f64.format.order x x == some Ordering.eq) = t → True := fun _ _ => trivial
                      simp only [bne] at *
                      generalize (FloatKind.f64.format.order x x == some Ordering.eq) = t at *
                      clear hb
                      cases t <;> simp_all [pack]
                 · first
                    | cases hc; done
                    | refine EvC.skip ?_
                      refine EvC.seq ?_
                      refine EvC.reg ?_
                      refine EvOps.step (n := 0) rfl ?_
                      refine EvOps.step (n := 0) rfl ?_
                      refine EvOps.step (n := 0) rfl ?_
                      refine EvOps.step (n := 0) rfl ?_
                      refine EvOps.nil ?_
                      simp only [KP, KH, KC, ↓reduceIte, Nat.reduceEqDiff, Nat.reduceAdd]
                      refine EvC.ret ?_
                      refine Res.finR rfl ?_
                      refine ⟨rfl, ?_⟩
                      have hb : ∀ t : Bool, (FloatKind.f64.format.order x x == some Ordering.eq) = t → True := fun _ _ => trivial
                      simp only [bne] at *
                      generalize (FloatKind.f64.format.order x x == some Ordering.eq) = t at *
                      clear hb
                      cases t <;> simp_all [pack]
            · first
               | cases hc; done
               | refine EvOps.step (n := 0) rfl ?_
                 refine EvOps.step (n := 0) rfl ?_
                 refine EvOps.step (n := 0) rfl ?_
                 refine EvOps.nil ?_
                 simp only [KP, KH, KC, ↓reduceIte, Nat.reduceEqDiff, Nat.reduceAdd]
                 refine EvC.condN rfl ?_
                 refine EvC.skip ?_
                 refine EvC.seq ?_
                 refine EvC.reg ?_
                 refine EvOps.step (n := 0) rfl ?_
                 refine EvOps.step (n := 0) rfl ?_
                 refine EvOps.step (n := 0) rfl ?_
                 refine EvOps.step (n := 0) rfl ?_
                 refine EvOps.nil ?_
                 simp only [KP, KH, KC, ↓reduceIte, Nat.reduceEqDiff, Nat.reduceAdd]
                 refine EvC.ret ?_
                 refine Res.finR rfl ?_
                 refine ⟨rfl, ?_⟩
                 have hb : ∀ t : Bool, (FloatKind.f64.format.order x x == some Ordering.eq) = t → True := fun _ _ => trivial
                 simp only [bne] at *
                 generalize (FloatKind.f64.format.order x x == some Ordering.eq) = t at *
                 clear hb
                 cases t <;> simp_all [pack]
/-- laws.eqVector -/
theorem w52 {u : Vec} (hq : Q (.b true) h) : W Φ 52 [u.av, u.av] h Q := by
  refine W.isoL (F := F52) rfl rfl ?_
  refine EvC.seq ?_
  refine EvC.reg ?_
  refine EvOps.boxL rfl rfl rfl rfl rfl ?_
  refine EvOps.boxL rfl rfl rfl rfl rfl ?_
  refine EvOps.step (n := 0) rfl ?_
  refine EvOps.nil ?_
  simp only [KP, KH, KC, ↓reduceIte, Nat.reduceEqDiff, Nat.reduceAdd]
  refine EvC.seq ?_
  refine EvC.seq ?_
  refine EvC.reg ?_
  refine EvOps.step (n := 0) rfl ?_
  first | refine EvOps.ldL rfl rfl rfl ?_ | refine EvOps.ldLm rfl rfl rfl (by simp only [List.length_set, S2_len]) ?_ | refine EvOps.ldH rfl rfl (by assumption) ?_
  first | refine EvOps.cvtUp rfl rfl ?_ | refine EvOps.step (n := 0) rfl ?_
  refine EvOps.step (n := 0) rfl ?_
  first | refine EvOps.ldL rfl rfl rfl ?_ | refine EvOps.ldLm rfl rfl rfl (by simp only [List.length_set, S2_len]) ?_ | refine EvOps.ldH rfl rfl (by assumption) ?_
  first | refine EvOps.cvtUp rfl rfl ?_ | refine EvOps.step (n := 0) rfl ?_
  refine EvOps.call rfl rfl ?_
  refine w53 ?_
  refine EvOps.step (n := 0) rfl ?_
  refine EvOps.nil ?_
  simp only [KP, KH, KC, ↓reduceIte, Nat.reduceEqDiff, Nat.reduceAdd]
  refine EvC.condS rfl (fun hc => ?_) (fun hc => ?_)
  · first
     | cases hc; done
     | refine EvC.seq ?_
       refine EvC.reg ?_
       refine EvOps.step (n := 0) rfl ?_
       refine EvOps.nil ?_
       simp only [KP, KH, KC, ↓reduceIte, Nat.reduceEqDiff, Nat.reduceAdd]
       refine EvC.ret ?_
       refine Res.finR rfl ?_
       exact ⟨rfl, hq⟩
  · first
     | cases hc; done
     | refine EvC.skip ?_
       refine EvC.seq ?_
       refine EvC.seq ?_
       refine EvC.reg ?_
       refine EvOps.step (n := 0) rfl ?_
       first | refine EvOps.ldL rfl rfl rfl ?_ | refine EvOps.ldLm rfl rfl rfl (by simp only [List.length_set, S2_len]) ?_ | refine EvOps.ldH rfl rfl (by assumption) ?_
       first | refine EvOps.cvtUp rfl rfl ?_ | refine EvOps.step (n := 0) rfl ?_
       refine EvOps.step (n := 0) rfl ?_
       first | refine EvOps.ldL rfl rfl rfl ?_ | refine EvOps.ldLm rfl rfl rfl (by simp only [List.length_set, S2_len]) ?_ | refine EvOps.ldH rfl rfl (by assumption) ?_
       first | refine EvOps.cvtUp rfl rfl ?_ | refine EvOps.step (n := 0) rfl ?_
       refine EvOps.call rfl rfl ?_
       refine w53 ?_
       refine EvOps.step (n := 0) rfl ?_
       refine EvOps.nil ?_
       simp only [KP, KH, KC, ↓reduceIte, Nat.reduceEqDiff, Nat.reduceAdd]
       refine EvC.condS rfl (fun hc => ?_) (fun hc => ?_)
       · first
          | cases hc; done
          | refine EvC.seq ?_
            refine EvC.reg ?_
            refine EvOps.step (n := 0) rfl ?_
            refine EvOps.nil ?_
            simp only [KP, KH, KC, ↓reduceIte, Nat.reduceEqDiff, Nat.reduceAdd]
            refine EvC.ret ?_
            refine Res.finR rfl ?_
            exact ⟨rfl, hq⟩
       · first
          | cases hc; done
          | refine EvC.skip ?_
            refine EvC.seq ?_
            refine EvC.seq ?_
            refine EvC.reg ?_
            refine EvOps.step (n := 0) rfl ?_
            first | refine EvOps.ldL rfl rfl rfl ?_ | refine EvOps.ldLm rfl rfl rfl (by simp only [List.length_set, S2_len]) ?_ | refine EvOps.ldH rfl rfl (by assumption) ?_
            first | refine EvOps.cvtUp rfl rfl ?_ | refine EvOps.step (n := 0) rfl ?_
            refine EvOps.step (n := 0) rfl ?_
            first | refine EvOps.ldL rfl rfl rfl ?_ | refine EvOps.ldLm rfl rfl rfl (by simp only [List.length_set, S2_len]) ?_ | refine EvOps.ldH rfl rfl (by assumption) ?_
            first | refine EvOps.cvtUp rfl rfl ?_ | refine EvOps.step (n := 0) rfl ?_
            refine EvOps.call rfl rfl ?_
            refine w53 ?_
            refine EvOps.step (n := 0) rfl ?_
            refine EvOps.nil ?_
            simp only [KP, KH, KC, ↓reduceIte, Nat.reduceEqDiff, Nat.reduceAdd]
            refine EvC.condS rfl (fun hc => ?_) (fun hc => ?_)
            · first
               | cases hc; done
               | refine EvC.seq ?_
                 refine EvC.reg ?_
                 refine EvOps.step (n := 0) rfl ?_
                 refine EvOps.nil ?_
                 simp only [KP, KH, KC, ↓reduceIte, Nat.reduceEqDiff, Nat.reduceAdd]
                 refine EvC.ret ?_
                 refine Res.finR rfl ?_
                 exact ⟨rfl, hq⟩
            · first
               | cases hc; done
               | refine EvC.skip ?_
                 refine EvC.seq ?_
                 refine EvC.reg ?_
                 refine EvOps.step (n := 0) rfl ?_
                 refine EvOps.nil ?_
                 simp only [KP, KH, KC, ↓reduceIte, Nat.reduceEqDiff, Nat.reduceAdd]
                 refine EvC.ret ?_
                 refine Res.finR rfl ?_
                 exact ⟨rfl, hq⟩
end
end Go.V.Try
