import Derived.Test.YtemiffhfijlcaaaR2Iso
set_option linter.unusedSimpArgs false
set_option linter.unusedVariables false
set_option linter.unusedSectionVars false
/-! Slices of equal elements are found equal; copies. -/
namespace Go.V.Try
open Go Go.V
section
variable {h : H} {Q : AV → H → Prop}
/-- laws.eqVectorS -/
theorem w49 {va vb : AV} {xs : List Vec} (ha : Vw h cV 3 va xs) (hb : Vw h cV 3 vb xs) (hs : xs.length < 2 ^ 40) (hq : Q (.b true) h) : W Φ 49 [va, vb] h Q := by
  obtain ⟨ra, ca, ga, rfl, ha, _⟩ := ha
  obtain ⟨rb, cb, gb, rfl, hb, _⟩ := hb
  refine W.dropL (F := F49) rfl ?_
  refine EvC.seq ?_
  refine EvC.reg ?_
  refine EvOps.step (n := 0) rfl ?_
  refine EvOps.nil ?_
  simp only [KP, KH, KC, ↓reduceIte, Nat.reduceEqDiff, Nat.reduceAdd]
  refine EvC.seq ?_
  refine EvC.seq ?_
  refine EvC.reg ?_
  refine EvOps.step (n := 0) rfl ?_
  refine EvOps.step (n := 0) rfl ?_
  refine EvOps.step (n := 0) rfl ?_
  refine EvOps.step (n := 0) rfl ?_
  refine EvOps.step (n := 0) rfl ?_
  refine EvOps.nil ?_
  simp only [KP, KH, KC, ↓reduceIte, Nat.reduceEqDiff, Nat.reduceAdd]
  refine EvC.condS rfl (fun hc => ?_) (fun hc => ?_)
  · first
     | cases hc; done
     | refine EvC.seq ?_
       refine EvC.reg ?_
       refine EvOps.step (n := 0) rfl ?_
       refine EvOps.nil ?_
       simp only [KP, KH, KC, ↓reduceIte, Nat.reduceEqDiff, Nat.reduceAdd]
       refine EvC.ret ?_
       refine Res.finR rfl ?_
       exact absurd hc (by simp)
  · first
     | cases hc; done
     | refine EvC.skip ?_
       refine EvC.seq ?_
       refine EvC.seq ?_
       refine EvC.reg ?_
       refine EvOps.step (n := 0) rfl ?_
       refine EvOps.nil ?_
       simp only [KP, KH, KC, ↓reduceIte, Nat.reduceEqDiff, Nat.reduceAdd]
       refine EvC.block ?_
       refine EvC.loop (fun k e hh => ∃ i : Nat, k = xs.length - i ∧ i ≤ xs.length ∧ hh = h ++ [] ∧ e = [(0, .sl ra xs.length ca ga), (1, .sl rb xs.length cb gb), (4, .b false), (5, i64 i)]) (k := xs.length) ⟨0, by simp, by simp, rfl, rfl⟩ ?_
       rintro k e hh ⟨i, rfl, hi, rfl, rfl⟩
       refine EvC.seq ?_
       refine EvC.seq ?_
       refine EvC.reg ?_
       refine EvOps.step (n := 0) rfl ?_
       refine EvOps.step (n := 0) rfl ?_
       refine EvOps.step (n := 0) rfl ?_
       refine EvOps.step (n := 0) rfl ?_
       refine EvOps.nil ?_
       simp only [KP, KH, KC, ↓reduceIte, Nat.reduceEqDiff, Nat.reduceAdd]
       refine EvC.condS rfl (fun hc => ?_) (fun hc => ?_)
       · first
          | cases hc; done
          | refine EvC.skip ?_
            refine EvC.seq ?_
            refine EvC.block ?_
            refine EvC.seq ?_
            refine EvC.drw rfl ?_
            refine EvOps.step (n := 0) rfl ?_
            refine EvOps.step (n := 0) rfl ?_
            have hix : i < xs.length := by simpa using hc
            obtain ⟨qa, rfl, hqa⟩ := ha i hix
            obtain ⟨qb, rfl, hqb⟩ := hb i hix
            first | refine EvOps.iaN rfl rfl (by omega) ?_
            first | refine EvOps.ldnL rfl rfl rfl ?_ | refine EvOps.ldnLm rfl rfl rfl (by simp only [List.length_set, S2_len]) ?_ | refine EvOps.ldnH rfl rfl (by assumption) ?_
            refine EvOps.step (n := 0) rfl ?_
            refine EvOps.step (n := 0) rfl ?_
            first | refine EvOps.iaN rfl rfl (by omega) ?_
            first | refine EvOps.ldnL rfl rfl rfl ?_ | refine EvOps.ldnLm rfl rfl rfl (by simp only [List.length_set, S2_len]) ?_ | refine EvOps.ldnH rfl rfl (by assumption) ?_
            refine EvOps.call rfl rfl ?_
            refine w52 (u := xs[i]) ?_
            refine EvOps.step (n := 0) rfl ?_
            refine EvOps.nil ?_
            simp only [KP, KH, KC, ↓reduceIte, Nat.reduceEqDiff, Nat.reduceAdd]
            refine EvC.condS rfl (fun hc => ?_) (fun hc => ?_)
            · first
               | cases hc; done
               | refine EvC.seq ?_
                 refine EvC.reg ?_
                 refine EvOps.step (n := 0) rfl ?_
                 refine EvOps.nil ?_
                 simp only [KP, KH, KC, ↓reduceIte, Nat.reduceEqDiff, Nat.reduceAdd]
                 refine EvC.ret ?_
                 refine Res.finR rfl ?_
                 exact absurd hc (by simp)
            · first
               | cases hc; done
               | refine EvC.skip ?_
                 refine EvC.reg ?_
                 refine EvOps.step (n := 0) rfl ?_
                 first | refine EvOps.addI rfl rfl (by omega) ?_ | refine EvOps.step (n := 0) rfl ?_
                 refine EvOps.step (n := 0) rfl ?_
                 refine EvOps.nil ?_
                 simp only [KP, KH, KC, ↓reduceIte, Nat.reduceEqDiff, Nat.reduceAdd]
                 exact ⟨xs.length - (i + 1), by omega, i + 1, (by first | rfl | trivial), by omega, (by first | rfl | trivial), (by first | rfl | trivial)⟩
       · first
          | cases hc; done
          | refine EvC.exit ?_
            refine EvC.seq ?_
            refine EvC.reg ?_
            refine EvOps.step (n := 0) rfl ?_
            refine EvOps.nil ?_
            simp only [KP, KH, KC, ↓reduceIte, Nat.reduceEqDiff, Nat.reduceAdd]
            refine EvC.ret ?_
            refine Res.finR rfl ?_
            exact ⟨List.prefix_append _ _, rfl, hq⟩
/-- laws.eqBoolS -/
theorem w50 {va vb : AV} {xs : List Bool} (ha : Vw h cB 1 va xs) (hb : Vw h cB 1 vb xs) (hs : xs.length < 2 ^ 40) (hq : Q (.b true) h) : W Φ 50 [va, vb] h Q := by
  obtain ⟨ra, ca, ga, rfl, ha, _⟩ := ha
  obtain ⟨rb, cb, gb, rfl, hb, _⟩ := hb
  refine W.dropL (F := F50) rfl ?_
  refine EvC.seq ?_
  refine EvC.reg ?_
  refine EvOps.step (n := 0) rfl ?_
  refine EvOps.nil ?_
  simp only [KP, KH, KC, ↓reduceIte, Nat.reduceEqDiff, Nat.reduceAdd]
  refine EvC.seq ?_
  refine EvC.seq ?_
  refine EvC.reg ?_
  refine EvOps.step (n := 0) rfl ?_
  refine EvOps.step (n := 0) rfl ?_
  refine EvOps.step (n := 0) rfl ?_
  refine EvOps.step (n := 0) rfl ?_
  refine EvOps.step (n := 0) rfl ?_
  refine EvOps.nil ?_
  simp only [KP, KH, KC, ↓reduceIte, Nat.reduceEqDiff, Nat.reduceAdd]
  refine EvC.condS rfl (fun hc => ?_) (fun hc => ?_)
  · first
     | cases hc; done
     | refine EvC.seq ?_
       refine EvC.reg ?_
       refine EvOps.step (n := 0) rfl ?_
       refine EvOps.nil ?_
       simp only [KP, KH, KC, ↓reduceIte, Nat.reduceEqDiff, Nat.reduceAdd]
       refine EvC.ret ?_
       refine Res.finR rfl ?_
       exact absurd hc (by simp)
  · first
     | cases hc; done
     | refine EvC.skip ?_
       refine EvC.seq ?_
       refine EvC.seq ?_
       refine EvC.reg ?_
       refine EvOps.step (n := 0) rfl ?_
       refine EvOps.nil ?_
       simp only [KP, KH, KC, ↓reduceIte, Nat.reduceEqDiff, Nat.reduceAdd]
       refine EvC.block ?_
       refine EvC.loop (fun k e hh => ∃ i : Nat, k = xs.length - i ∧ i ≤ xs.length ∧ hh = h ++ [] ∧ e = [(0, .sl ra xs.length ca ga), (1, .sl rb xs.length cb gb), (4, .b false), (5, i64 i)]) (k := xs.length) ⟨0, by simp, by simp, rfl, rfl⟩ ?_
       rintro k e hh ⟨i, rfl, hi, rfl, rfl⟩
       refine EvC.seq ?_
       refine EvC.seq ?_
       refine EvC.reg ?_
       refine EvOps.step (n := 0) rfl ?_
       refine EvOps.step (n := 0) rfl ?_
       refine EvOps.step (n := 0) rfl ?_
       refine EvOps.step (n := 0) rfl ?_
       refine EvOps.nil ?_
       simp only [KP, KH, KC, ↓reduceIte, Nat.reduceEqDiff, Nat.reduceAdd]
       refine EvC.condS rfl (fun hc => ?_) (fun hc => ?_)
       · first
          | cases hc; done
          | refine EvC.skip ?_
            refine EvC.seq ?_
            refine EvC.block ?_
            refine EvC.seq ?_
            refine EvC.drw rfl ?_
            refine EvOps.step (n := 0) rfl ?_
            refine EvOps.step (n := 0) rfl ?_
            have hix : i < xs.length := by simpa using hc
            obtain ⟨qa, rfl, hqa⟩ := ha i hix
            obtain ⟨qb, rfl, hqb⟩ := hb i hix
            replace hqa := rd_of_rdn hqa
            replace hqb := rd_of_rdn hqb
            first | refine EvOps.iaN rfl rfl (by omega) ?_
            first | refine EvOps.ldL rfl rfl rfl ?_ | refine EvOps.ldLm rfl rfl rfl (by simp only [List.length_set, S2_len]) ?_ | refine EvOps.ldH rfl rfl (by assumption) ?_
            refine EvOps.step (n := 0) rfl ?_
            refine EvOps.step (n := 0) rfl ?_
            first | refine EvOps.iaN rfl rfl (by omega) ?_
            first | refine EvOps.ldL rfl rfl rfl ?_ | refine EvOps.ldLm rfl rfl rfl (by simp only [List.length_set, S2_len]) ?_ | refine EvOps.ldH rfl rfl (by assumption) ?_
            refine EvOps.step (n := 0) rfl ?_
            refine EvOps.nil ?_
            simp only [KP, KH, KC, ↓reduceIte, Nat.reduceEqDiff, Nat.reduceAdd]
            refine EvC.condS rfl (fun hc => ?_) (fun hc => ?_)
            · first
               | cases hc; done
               | refine EvC.seq ?_
                 refine EvC.reg ?_
                 refine EvOps.step (n := 0) rfl ?_
                 refine EvOps.nil ?_
                 simp only [KP, KH, KC, ↓reduceIte, Nat.reduceEqDiff, Nat.reduceAdd]
                 refine EvC.ret ?_
                 refine Res.finR rfl ?_
                 exact absurd hc (by simp)
            · first
               | cases hc; done
               | refine EvC.skip ?_
                 refine EvC.reg ?_
                 refine EvOps.step (n := 0) rfl ?_
                 first | refine EvOps.addI rfl rfl (by omega) ?_ | refine EvOps.step (n := 0) rfl ?_
                 refine EvOps.step (n := 0) rfl ?_
                 refine EvOps.nil ?_
                 simp only [KP, KH, KC, ↓reduceIte, Nat.reduceEqDiff, Nat.reduceAdd]
                 exact ⟨xs.length - (i + 1), by omega, i + 1, (by first | rfl | trivial), by omega, (by first | rfl | trivial), (by first | rfl | trivial)⟩
       · first
          | cases hc; done
          | refine EvC.exit ?_
            refine EvC.seq ?_
            refine EvC.reg ?_
            refine EvOps.step (n := 0) rfl ?_
            refine EvOps.nil ?_
            simp only [KP, KH, KC, ↓reduceIte, Nat.reduceEqDiff, Nat.reduceAdd]
            refine EvC.ret ?_
            refine Res.finR rfl ?_
            exact ⟨List.prefix_append _ _, rfl, hq⟩
/-- laws.eqFloat32S -/
theorem w51 {va vb : AV} {xs : List Nat} (ha : Vw h cF 1 va xs) (hb : Vw h cF 1 vb xs) (hs : xs.length < 2 ^ 40) (hq : Q (.b true) h) : W Φ 51 [va, vb] h Q := by
  obtain ⟨ra, ca, ga, rfl, ha, _⟩ := ha
  obtain ⟨rb, cb, gb, rfl, hb, _⟩ := hb
  refine W.dropL (F := F51) rfl ?_
  refine EvC.seq ?_
  refine EvC.reg ?_
  refine EvOps.step (n := 0) rfl ?_
  refine EvOps.nil ?_
  simp only [KP, KH, KC, ↓reduceIte, Nat.reduceEqDiff, Nat.reduceAdd]
  refine EvC.seq ?_
  refine EvC.seq ?_
  refine EvC.reg ?_
  refine EvOps.step (n := 0) rfl ?_
  refine EvOps.step (n := 0) rfl ?_
  refine EvOps.step (n := 0) rfl ?_
  refine EvOps.step (n := 0) rfl ?_
  refine EvOps.step (n := 0) rfl ?_
  refine EvOps.nil ?_
  simp only [KP, KH, KC, ↓reduceIte, Nat.reduceEqDiff, Nat.reduceAdd]
  refine EvC.condS rfl (fun hc => ?_) (fun hc => ?_)
  · first
     | cases hc; done
     | refine EvC.seq ?_
       refine EvC.reg ?_
       refine EvOps.step (n := 0) rfl ?_
       refine EvOps.nil ?_
       simp only [KP, KH, KC, ↓reduceIte, Nat.reduceEqDiff, Nat.reduceAdd]
       refine EvC.ret ?_
       refine Res.finR rfl ?_
       exact absurd hc (by simp)
  · first
     | cases hc; done
     | refine EvC.skip ?_
       refine EvC.seq ?_
       refine EvC.seq ?_
       refine EvC.reg ?_
       refine EvOps.step (n := 0) rfl ?_
       refine EvOps.nil ?_
       simp only [KP, KH, KC, ↓reduceIte, Nat.reduceEqDiff, Nat.reduceAdd]
       refine EvC.block ?_
       refine EvC.loop (fun k e hh => ∃ i : Nat, k = xs.length - i ∧ i ≤ xs.length ∧ hh = h ++ [] ∧ e = [(0, .sl ra xs.length ca ga), (1, .sl rb xs.length cb gb), (4, .b false), (5, i64 i)]) (k := xs.length) ⟨0, by simp, by simp, rfl, rfl⟩ ?_
       rintro k e hh ⟨i, rfl, hi, rfl, rfl⟩
       refine EvC.seq ?_
       refine EvC.seq ?_
       refine EvC.reg ?_
       refine EvOps.step (n := 0) rfl ?_
       refine EvOps.step (n := 0) rfl ?_
       refine EvOps.step (n := 0) rfl ?_
       refine EvOps.step (n := 0) rfl ?_
       refine EvOps.nil ?_
       simp only [KP, KH, KC, ↓reduceIte, Nat.reduceEqDiff, Nat.reduceAdd]
       refine EvC.condS rfl (fun hc => ?_) (fun hc => ?_)
       · first
          | cases hc; done
          | refine EvC.skip ?_
            refine EvC.seq ?_
            refine EvC.block ?_
            refine EvC.seq ?_
            refine EvC.drw rfl ?_
            refine EvOps.step (n := 0) rfl ?_
            refine EvOps.step (n := 0) rfl ?_
            have hix : i < xs.length := by simpa using hc
            obtain ⟨qa, rfl, hqa⟩ := ha i hix
            obtain ⟨qb, rfl, hqb⟩ := hb i hix
            replace hqa := rd_of_rdn hqa
            replace hqb := rd_of_rdn hqb
            first | refine EvOps.iaN rfl rfl (by omega) ?_
            first | refine EvOps.ldL rfl rfl rfl ?_ | refine EvOps.ldLm rfl rfl rfl (by simp only [List.length_set, S2_len]) ?_ | refine EvOps.ldH rfl rfl (by assumption) ?_
            first | refine EvOps.cvtUp rfl rfl ?_ | refine EvOps.step (n := 0) rfl ?_
            refine EvOps.step (n := 0) rfl ?_
            refine EvOps.step (n := 0) rfl ?_
            first | refine EvOps.iaN rfl rfl (by omega) ?_
            first | refine EvOps.ldL rfl rfl rfl ?_ | refine EvOps.ldLm rfl rfl rfl (by simp only [List.length_set, S2_len]) ?_ | refine EvOps.ldH rfl rfl (by assumption) ?_
            first | refine EvOps.cvtUp rfl rfl ?_ | refine EvOps.step (n := 0) rfl ?_
            refine EvOps.call rfl rfl ?_
            refine w53 (x := up xs[i]) ?_
            refine EvOps.step (n := 0) rfl ?_
            refine EvOps.nil ?_
            simp only [KP, KH, KC, ↓reduceIte, Nat.reduceEqDiff, Nat.reduceAdd]
            refine EvC.condS rfl (fun hc => ?_) (fun hc => ?_)
            · first
               | cases hc; done
               | refine EvC.seq ?_
                 refine EvC.reg ?_
                 refine EvOps.step (n := 0) rfl ?_
                 refine EvOps.nil ?_
                 simp only [KP, KH, KC, ↓reduceIte, Nat.reduceEqDiff, Nat.reduceAdd]
                 refine EvC.ret ?_
                 refine Res.finR rfl ?_
                 exact absurd hc (by simp)
            · first
               | cases hc; done
               | refine EvC.skip ?_
                 refine EvC.reg ?_
                 refine EvOps.step (n := 0) rfl ?_
                 first | refine EvOps.addI rfl rfl (by omega) ?_ | refine EvOps.step (n := 0) rfl ?_
                 refine EvOps.step (n := 0) rfl ?_
                 refine EvOps.nil ?_
                 simp only [KP, KH, KC, ↓reduceIte, Nat.reduceEqDiff, Nat.reduceAdd]
                 exact ⟨xs.length - (i + 1), by omega, i + 1, (by first | rfl | trivial), by omega, (by first | rfl | trivial), (by first | rfl | trivial)⟩
       · first
          | cases hc; done
          | refine EvC.exit ?_
            refine EvC.seq ?_
            refine EvC.reg ?_
            refine EvOps.step (n := 0) rfl ?_
            refine EvOps.nil ?_
            simp only [KP, KH, KC, ↓reduceIte, Nat.reduceEqDiff, Nat.reduceAdd]
            refine EvC.ret ?_
            refine Res.finR rfl ?_
            exact ⟨List.prefix_append _ _, rfl, hq⟩
end
end Go.V.Try
