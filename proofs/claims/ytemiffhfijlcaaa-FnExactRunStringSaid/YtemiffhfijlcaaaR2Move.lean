import Derived.Test.YtemiffhfijlcaaaR2Pull
set_option linter.unusedSimpArgs false
set_option linter.unusedVariables false
set_option linter.unusedSectionVars false
/-! A step of a string. -/
namespace Go.V.Try
open Go Go.V
section
variable {h : H} {Q : AV → H → Prop}
/-- (*impl.String).move -/
theorem w28 {bs n : Nat} {s : Str} (hs : h[bs]? = some ⟨strCells n true s, .own⟩) (A : StrAt h n s) (hne : bs ≠ n ∧ bs ≠ n + 1) (ok : s.Ok) (hq : Q (.tup []) (S2 h n ⟨fl cV s.step.pts, .own⟩ ⟨fl cV s.step.bef, .own⟩)) : W Φ 28 [.p (some ⟨bs, 0⟩)] h Q := by
  obtain ⟨oa, ob, oc, od, oe, of, og⟩ := ok
  have hn0 := at_lt A.pts
  have hn1 := at_lt A.bef
  have hs0 : rd h ((⟨bs, 0⟩ : Ref).add 0) = some (oP n true s) := rd_block hs (by decide) rfl
  have hs1 : rd h ((⟨bs, 0⟩ : Ref).add 1) = some (oB n true s) := rd_block hs (by decide) rfl
  have hs2 : rd h ((⟨bs, 0⟩ : Ref).add 2) = some (oF n true s) := rd_block hs (by decide) rfl
  have hs3 : rd h ((⟨bs, 0⟩ : Ref).add 3) = some (oL n true s) := rd_block hs (by decide) rfl
  have hs7 : rd h ((⟨bs, 0⟩ : Ref).add 7) = some (f32 s.damp) := rd_block hs (by decide) rfl
  have hs8 : rd h ((⟨bs, 0⟩ : Ref).add 8) = some (i64 s.passes) := rd_block hs (by decide) rfl
  have hs4 : rdn h ((⟨bs, 0⟩ : Ref).add 4) 3 = some (cV s.fall) := rdn_block hs (by decide) (by simp [Ref.add])
  refine W.neatL (F := F28) rfl ?_
  refine EvC.seq ?_
  refine EvC.seq ?_
  refine EvC.reg ?_
  refine EvOps.step (n := 0) rfl ?_
  refine EvOps.step (n := 0) rfl ?_
  refine EvOps.step (n := 0) rfl ?_
  first | refine EvOps.ldL rfl rfl rfl ?_ | refine EvOps.ldLm rfl rfl rfl (by simp only [List.length_set, S2_len]) ?_ | refine EvOps.ldH rfl rfl (by assumption) ?_
  refine EvOps.step (n := 0) rfl ?_
  refine EvOps.step (n := 0) rfl ?_
  refine EvOps.nil ?_
  simp only [KP, KH, KC, ↓reduceIte, Nat.reduceEqDiff, Nat.reduceAdd]
  refine EvC.block ?_
  refine EvC.loop (fun c e hh => ∃ (i : Nat) (l : H), c = s.pts.length - i ∧ i ≤ s.pts.length ∧ hh = S2 h n ⟨fl cV (mv1 s i).1, .own⟩ ⟨fl cV (mv1 s i).2, .own⟩ ++ l ∧ e = [(0, .p (some ⟨bs, 0⟩)), (8, oP n true s), (9, i64 s.pts.length), (10, i64 i)]) (k := s.pts.length) ⟨0, [], by simp, by simp, by rw [show mv1 s 0 = (s.pts, s.bef) from rfl, S2_self A.pts A.bef], rfl⟩ ?_
  rintro c e hh ⟨i, l, rfl, hi, rfl, rfl⟩
  refine EvC.seq ?_
  refine EvC.reg ?_
  refine EvOps.step (n := 0) rfl ?_
  refine EvOps.nil ?_
  simp only [KP, KH, KC, ↓reduceIte, Nat.reduceEqDiff, Nat.reduceAdd]
  refine EvC.seq ?_
  refine EvC.condS rfl (fun hc => ?_) (fun hc => ?_)
  · first
     | cases hc; done
     | refine EvC.skip ?_
       refine EvC.seq ?_
       refine EvC.block ?_
       refine EvC.seq ?_
       refine EvC.reg ?_
       have hix : i < s.pts.length := by simpa using hc
       generalize hG : S2 h n ⟨fl cV (mv1 s i).1, .own⟩ ⟨fl cV (mv1 s i).2, .own⟩ ++ l = G
       have gs : G[bs]? = some ⟨strCells (n) true s, .own⟩ := by rw [← hG]; exact get_old (by rw [S2_ne hne.1 hne.2]; exact hs)
       have gP : G[n]? = some ⟨fl cV (mv1 s i).1, .own⟩ := by rw [← hG]; exact get_old (S2_get0 hn0)
       have gB : G[n + 1]? = some ⟨fl cV (mv1 s i).2, .own⟩ := by rw [← hG]; exact get_old (S2_get1 hn1)
       have gF : G[n + 2]? = some ⟨fl cB s.fixed, .own⟩ := by rw [← hG]; exact get_old (by rw [S2_ne (by omega) (by omega)]; exact A.fixed)
       have gs0 : rd G ((⟨bs, 0⟩ : Ref).add 0) = some (oP n true s) := rd_block gs (by decide) rfl
       have gs1 : rd G ((⟨bs, 0⟩ : Ref).add 1) = some (oB n true s) := rd_block gs (by decide) rfl
       have gs2 : rd G ((⟨bs, 0⟩ : Ref).add 2) = some (oF n true s) := rd_block gs (by decide) rfl
       have gs3 : rd G ((⟨bs, 0⟩ : Ref).add 3) = some (oL n true s) := rd_block gs (by decide) rfl
       have gs7 : rd G ((⟨bs, 0⟩ : Ref).add 7) = some (f32 s.damp) := rd_block gs (by decide) rfl
       have gs8 : rd G ((⟨bs, 0⟩ : Ref).add 8) = some (i64 s.passes) := rd_block gs (by decide) rfl
       have gs4 : rdn G ((⟨bs, 0⟩ : Ref).add 4) 3 = some (cV s.fall) := rdn_block gs (by decide) (by simp [Ref.add])
       have eP := rdE v0 gP (by decide) (by rw [(mv1_len s i).1]; exact hix : i < (mv1 s i).1.length)
       have eB := rdE v0 gB (by decide) (by rw [(mv1_len s i).2]; omega : i < (mv1 s i).2.length)
       have eF := rd_of_rdn (rdE false gF (by decide) (by omega : i < s.fixed.length))
       have gn0 := at_lt gP
       have gn1 := at_lt gB
       rw [← List.append_nil G]
       refine EvOps.step (n := 0) rfl ?_
       first | refine EvOps.iaN rfl rfl (by omega) ?_
       first | refine EvOps.ldnL rfl rfl rfl ?_ | refine EvOps.ldnLm rfl rfl rfl (by simp only [List.length_set, S2_len]) ?_ | refine EvOps.ldnH rfl rfl (by assumption) ?_
       refine EvOps.allocL rfl rfl ?_
       refine EvOps.step (n := 0) rfl ?_
       first | refine EvOps.stL rfl rfl rfl rfl ?_ | refine EvOps.stLm rfl rfl rfl rfl (by simp only [List.length_set, S2_len]) ?_ | refine EvOps.stH rfl rfl rfl (by assumption) ?_
       refine EvOps.nil ?_
       simp only [KP, KH, KC, ↓reduceIte, Nat.reduceEqDiff, Nat.reduceAdd]
       refine EvC.seq ?_
       refine EvC.seq ?_
       refine EvC.reg ?_
       refine EvOps.step (n := 0) rfl ?_
       refine EvOps.step (n := 0) rfl ?_
       refine EvOps.step (n := 0) rfl ?_
       first | refine EvOps.ldL rfl rfl rfl ?_ | refine EvOps.ldLm rfl rfl rfl (by simp only [List.length_set, S2_len]) ?_ | refine EvOps.ldH rfl rfl (by assumption) ?_
       refine EvOps.step (n := 0) rfl ?_
       first | refine EvOps.iaN rfl rfl (by omega) ?_
       first | refine EvOps.ldL rfl rfl rfl ?_ | refine EvOps.ldLm rfl rfl rfl (by simp only [List.length_set, S2_len]) ?_ | refine EvOps.ldH rfl rfl (by assumption) ?_
       refine EvOps.step (n := 0) rfl ?_
       refine EvOps.nil ?_
       simp only [KP, KH, KC, ↓reduceIte, Nat.reduceEqDiff, Nat.reduceAdd]
       refine EvC.condS rfl (fun hc => ?_) (fun hc => ?_)
       · first
          | cases hc; done
          | refine EvC.drw rfl ?_
            have hfx : s.fixed.getD i false = false := by simpa using hc
            refine EvOps.step (n := 0) rfl ?_
            refine EvOps.step (n := 0) rfl ?_
            refine EvOps.step (n := 0) rfl ?_
            first | refine EvOps.ldL rfl rfl rfl ?_ | refine EvOps.ldLm rfl rfl rfl (by simp only [List.length_set, S2_len]) ?_ | refine EvOps.ldH rfl rfl (by assumption) ?_
            refine EvOps.step (n := 0) rfl ?_
            first | refine EvOps.ldnL rfl rfl rfl ?_ | refine EvOps.ldnLm rfl rfl rfl (by simp only [List.length_set, S2_len]) ?_ | refine EvOps.ldnH rfl rfl (by assumption) ?_
            first | refine EvOps.ldnL rfl rfl rfl ?_ | refine EvOps.ldnLm rfl rfl rfl (by simp only [List.length_set, S2_len]) ?_ | refine EvOps.ldnH rfl rfl (by assumption) ?_
            refine EvOps.step (n := 0) rfl ?_
            refine EvOps.step (n := 0) rfl ?_
            refine EvOps.step (n := 0) rfl ?_
            first | refine EvOps.ldL rfl rfl rfl ?_ | refine EvOps.ldLm rfl rfl rfl (by simp only [List.length_set, S2_len]) ?_ | refine EvOps.ldH rfl rfl (by assumption) ?_
            refine EvOps.step (n := 0) rfl ?_
            first | refine EvOps.iaN rfl rfl (by omega) ?_
            first | refine EvOps.ldnL rfl rfl rfl ?_ | refine EvOps.ldnLm rfl rfl rfl (by simp only [List.length_set, S2_len]) ?_ | refine EvOps.ldnH rfl rfl (by assumption) ?_
            refine EvOps.call rfl rfl ?_
            refine w71 (u := ((mv1 s i).1.getD i v0)) (v := ((mv1 s i).2.getD i v0)) ?_
            refine EvOps.step (n := 0) rfl ?_
            refine EvOps.step (n := 0) rfl ?_
            refine EvOps.step (n := 0) rfl ?_
            first | refine EvOps.ldL rfl rfl rfl ?_ | refine EvOps.ldLm rfl rfl rfl (by simp only [List.length_set, S2_len]) ?_ | refine EvOps.ldH rfl rfl (by assumption) ?_
            refine EvOps.call rfl rfl ?_
            refine w70 (u := (((mv1 s i).1.getD i v0).sub ((mv1 s i).2.getD i v0))) (k := s.damp) ?_
            refine EvOps.call rfl rfl ?_
            refine w69 (u := ((mv1 s i).1.getD i v0)) (v := ((((mv1 s i).1.getD i v0).sub ((mv1 s i).2.getD i v0)).scale s.damp)) ?_
            refine EvOps.step (n := 0) rfl ?_
            refine EvOps.step (n := 0) rfl ?_
            refine EvOps.step (n := 0) rfl ?_
            first | refine EvOps.ldnL rfl rfl rfl ?_ | refine EvOps.ldnLm rfl rfl rfl (by simp only [List.length_set, S2_len]) ?_ | refine EvOps.ldnH rfl rfl (by assumption) ?_
            refine EvOps.call rfl rfl ?_
            refine w69 (u := (((mv1 s i).1.getD i v0).add ((((mv1 s i).1.getD i v0).sub ((mv1 s i).2.getD i v0)).scale s.damp))) (v := s.fall) ?_
            first | refine EvOps.iaN rfl rfl (by omega) ?_
            refine EvOps.stEH cV (mv1 s i).1 (((((mv1 s i).1.getD i v0).add ((((mv1 s i).1.getD i v0).sub ((mv1 s i).2.getD i v0)).scale s.damp)).add s.fall)) (b := n) (i := i) rfl rfl gP (by rw [(mv1_len s i).1]; exact hix) rfl ?_
            have q1 : rd (G.set n ⟨fl cV ((mv1 s i).1.set i (((((mv1 s i).1.getD i v0).add ((((mv1 s i).1.getD i v0).sub ((mv1 s i).2.getD i v0)).scale s.damp)).add s.fall))), .own⟩) ((⟨bs, 0⟩ : Ref).add 1) = some (oB n true s) := by rw [rd_set (by simpa [Ref.add] using hne.1)]; exact gs1
            have gB' : (G.set n ⟨fl cV ((mv1 s i).1.set i (((((mv1 s i).1.getD i v0).add ((((mv1 s i).1.getD i v0).sub ((mv1 s i).2.getD i v0)).scale s.damp)).add s.fall))), .own⟩)[n + 1]? = some ⟨fl cV (mv1 s i).2, .own⟩ := by rw [List.getElem?_set_ne (by omega)]; exact gB
            refine EvOps.nil ?_
            simp only [KP, KH, KC, ↓reduceIte, Nat.reduceEqDiff, Nat.reduceAdd]
            refine EvC.drw rfl ?_
            first | (have hfx : s.fixed.getD i false = true := by simpa using hc) | skip
            refine EvOps.step (n := 0) rfl ?_
            refine EvOps.step (n := 0) rfl ?_
            refine EvOps.step (n := 0) rfl ?_
            first | refine EvOps.ldL rfl rfl rfl ?_ | refine EvOps.ldLm rfl rfl rfl (by simp only [List.length_set, S2_len]) ?_ | refine EvOps.ldH rfl rfl (by assumption) ?_
            refine EvOps.step (n := 0) rfl ?_
            first | refine EvOps.ldnL rfl rfl rfl ?_ | refine EvOps.ldnLm rfl rfl rfl (by simp only [List.length_set, S2_len]) ?_ | refine EvOps.ldnH rfl rfl (by assumption) ?_
            first | refine EvOps.iaN rfl rfl (by omega) ?_
            refine EvOps.stEH cV (mv1 s i).2 ((mv1 s i).1.getD i v0) (b := n + 1) (i := i) rfl rfl (by assumption) (by rw [(mv1_len s i).2]; omega) rfl ?_
            refine EvOps.nil ?_
            simp only [KP, KH, KC, ↓reduceIte, Nat.reduceEqDiff, Nat.reduceAdd]
            refine EvC.reg ?_
            first | refine EvOps.addI rfl rfl (by omega) ?_ | refine EvOps.step (n := 0) rfl ?_
            refine EvOps.step (n := 0) rfl ?_
            refine EvOps.nil ?_
            simp only [KP, KH, KC, ↓reduceIte, Nat.reduceEqDiff, Nat.reduceAdd]
            refine ⟨s.pts.length - (i + 1), by omega, i + 1, l ++ [⟨cV ((mv1 s i).1.getD i v0), .own⟩], rfl, by omega, ?_, rfl⟩
            subst hG
            first
              | (rw [mv1_t hfx, set_old (by rw [S2_len]; omega), S2_set1, List.append_assoc]; try rfl; done)
              | (rw [mv1_f hfx, set_old (by rw [S2_len]; omega), S2_set0, set_old (by rw [S2_len]; omega), S2_set1, List.append_assoc]; try rfl; done)
       · first
          | cases hc; done
          | refine EvC.skip ?_
            refine EvC.drw rfl ?_
            first | (have hfx : s.fixed.getD i false = true := by simpa using hc) | skip
            refine EvOps.step (n := 0) rfl ?_
            refine EvOps.step (n := 0) rfl ?_
            refine EvOps.step (n := 0) rfl ?_
            first | refine EvOps.ldL rfl rfl rfl ?_ | refine EvOps.ldLm rfl rfl rfl (by simp only [List.length_set, S2_len]) ?_ | refine EvOps.ldH rfl rfl (by assumption) ?_
            refine EvOps.step (n := 0) rfl ?_
            first | refine EvOps.ldnL rfl rfl rfl ?_ | refine EvOps.ldnLm rfl rfl rfl (by simp only [List.length_set, S2_len]) ?_ | refine EvOps.ldnH rfl rfl (by assumption) ?_
            first | refine EvOps.iaN rfl rfl (by omega) ?_
            refine EvOps.stEH cV (mv1 s i).2 ((mv1 s i).1.getD i v0) (b := n + 1) (i := i) rfl rfl (by assumption) (by rw [(mv1_len s i).2]; omega) rfl ?_
            refine EvOps.nil ?_
            simp only [KP, KH, KC, ↓reduceIte, Nat.reduceEqDiff, Nat.reduceAdd]
            refine EvC.reg ?_
            first | refine EvOps.addI rfl rfl (by omega) ?_ | refine EvOps.step (n := 0) rfl ?_
            refine EvOps.step (n := 0) rfl ?_
            refine EvOps.nil ?_
            simp only [KP, KH, KC, ↓reduceIte, Nat.reduceEqDiff, Nat.reduceAdd]
            refine ⟨s.pts.length - (i + 1), by omega, i + 1, l ++ [⟨cV ((mv1 s i).1.getD i v0), .own⟩], rfl, by omega, ?_, rfl⟩
            subst hG
            first
              | (rw [mv1_t hfx, set_old (by rw [S2_len]; omega), S2_set1, List.append_assoc]; try rfl; done)
              | (rw [mv1_f hfx, set_old (by rw [S2_len]; omega), S2_set0, set_old (by rw [S2_len]; omega), S2_set1, List.append_assoc]; try rfl; done)
  · first
     | cases hc; done
     | refine EvC.exit ?_
       refine EvC.seq ?_
       refine EvC.reg ?_
       have hil : i = s.pts.length := by simp at hc; omega
       subst hil
       generalize hP0e : (mv1 s s.pts.length).1 = P0
       have hP0 : P0.length = s.pts.length := by rw [← hP0e]; exact (mv1_len s _).1
       generalize hG : S2 h n ⟨fl cV P0, .own⟩ ⟨fl cV (mv1 s s.pts.length).2, .own⟩ ++ l = G
       have gs : G[bs]? = some ⟨strCells n true s, .own⟩ := by rw [← hG]; exact get_old (by rw [S2_ne hne.1 hne.2]; exact hs)
       have gP : G[n]? = some ⟨fl cV P0, .own⟩ := by rw [← hG]; exact get_old (S2_get0 hn0)
       have gF : G[n + 2]? = some ⟨fl cB s.fixed, .own⟩ := by rw [← hG]; exact get_old (by rw [S2_ne (by omega) (by omega)]; exact A.fixed)
       have gL : G[n + 3]? = some ⟨fl cF s.lens, .own⟩ := by rw [← hG]; exact get_old (by rw [S2_ne (by omega) (by omega)]; exact A.lens)
       have gn0 := at_lt gP
       have gs0 : rd G ((⟨bs, 0⟩ : Ref).add 0) = some (oP n true s) := rd_block gs (by decide) rfl
       have gs1 : rd G ((⟨bs, 0⟩ : Ref).add 1) = some (oB n true s) := rd_block gs (by decide) rfl
       have gs2 : rd G ((⟨bs, 0⟩ : Ref).add 2) = some (oF n true s) := rd_block gs (by decide) rfl
       have gs3 : rd G ((⟨bs, 0⟩ : Ref).add 3) = some (oL n true s) := rd_block gs (by decide) rfl
       have gs7 : rd G ((⟨bs, 0⟩ : Ref).add 7) = some (f32 s.damp) := rd_block gs (by decide) rfl
       have gs8 : rd G ((⟨bs, 0⟩ : Ref).add 8) = some (i64 s.passes) := rd_block gs (by decide) rfl
       have gs4 : rdn G ((⟨bs, 0⟩ : Ref).add 4) 3 = some (cV s.fall) := rdn_block gs (by decide) (by simp [Ref.add])
       rw [← List.append_nil G]
       refine EvOps.step (n := 0) rfl ?_
       refine EvOps.step (n := 0) rfl ?_
       refine EvOps.step (n := 0) rfl ?_
       first | refine EvOps.ldL rfl rfl rfl ?_ | refine EvOps.ldLm rfl rfl rfl (by simp only [List.length_set, S2_len]) ?_ | refine EvOps.ldH rfl rfl (by assumption) ?_
       refine EvOps.step (n := 0) rfl ?_
       refine EvOps.nil ?_
       simp only [KP, KH, KC, ↓reduceIte, Nat.reduceEqDiff, Nat.reduceAdd]
       refine EvC.block ?_
       refine EvC.loop (fun c e hh => ∃ (k : Nat), c = s.passes.toNat - k ∧ k ≤ s.passes.toNat ∧ hh = G.set n ⟨fl cV (passN s k P0), .own⟩ ++ [] ∧ e = [(0, .p (some ⟨bs, 0⟩)), (61, i64 s.passes), (62, i64 k)]) (k := s.passes.toNat) ⟨0, by simp, by simp, by rw [show passN s 0 P0 = P0 from rfl, list_set_self gP], rfl⟩ ?_
       rintro c e hh ⟨k, rfl, hk, rfl, rfl⟩
       refine EvC.seq ?_
       refine EvC.reg ?_
       refine EvOps.step (n := 0) rfl ?_
       refine EvOps.nil ?_
       simp only [KP, KH, KC, ↓reduceIte, Nat.reduceEqDiff, Nat.reduceAdd]
       refine EvC.seq ?_
       refine EvC.condS rfl (fun hc => ?_) (fun hc => ?_)
       · first
          | cases hc; done
          | refine EvC.skip ?_
            refine EvC.seq ?_
            refine EvC.block ?_
            refine EvC.seq ?_
            refine EvC.reg ?_
            have hkx : k < s.passes.toNat := by
              simp at hc; omega
            have kf3 : rd (G.set n ⟨fl cV (passN s k P0), .own⟩) ((⟨bs, 0⟩ : Ref).add 3) = some (oL n true s) := by rw [rd_set (by simpa [Ref.add] using hne.1)]; exact gs3
            refine EvOps.step (n := 0) rfl ?_
            refine EvOps.step (n := 0) rfl ?_
            refine EvOps.step (n := 0) rfl ?_
            first | refine EvOps.ldL rfl rfl rfl ?_ | refine EvOps.ldLm rfl rfl rfl (by simp only [List.length_set, S2_len]) ?_ | refine EvOps.ldH rfl rfl (by assumption) ?_
            refine EvOps.step (n := 0) rfl ?_
            refine EvOps.step (n := 0) rfl ?_
            refine EvOps.nil ?_
            simp only [KP, KH, KC, ↓reduceIte, Nat.reduceEqDiff, Nat.reduceAdd]
            refine EvC.block ?_
            refine EvC.loop (fun c e hh => ∃ (i : Nat), c = s.lens.length - i ∧ i ≤ s.lens.length ∧ hh = G.set n ⟨fl cV (pass s i (passN s k P0)), .own⟩ ++ [] ∧ e = [(0, .p (some ⟨bs, 0⟩)), (61, i64 s.passes), (62, i64 k), (63, .b (decide ((k : Int) < s.passes))), (68, i64 s.lens.length), (69, i64 i)]) (k := s.lens.length) ⟨0, by simp, by simp, rfl, rfl⟩ ?_
            rintro c e hh ⟨i, rfl, hi, rfl, rfl⟩
            refine EvC.seq ?_
            refine EvC.reg ?_
            refine EvOps.step (n := 0) rfl ?_
            refine EvOps.nil ?_
            simp only [KP, KH, KC, ↓reduceIte, Nat.reduceEqDiff, Nat.reduceAdd]
            refine EvC.seq ?_
            refine EvC.condS rfl (fun hc => ?_) (fun hc => ?_)
            · first
               | cases hc; done
               | refine EvC.skip ?_
                 refine EvC.seq ?_
                 refine EvC.block ?_
                 refine EvC.seq ?_
                 refine EvC.reg ?_
                 have hix : i < s.lens.length := by simpa using hc
                 have gsX : (G.set n ⟨fl cV (pass s i (passN s k P0)), .own⟩ ++ [])[bs]? = some ⟨strCells n true s, .own⟩ := get_old (by rw [List.getElem?_set_ne (fun e => hne.1 e.symm)]; exact gs)
                 have gPX : (G.set n ⟨fl cV (pass s i (passN s k P0)), .own⟩ ++ [])[n]? = some ⟨fl cV (pass s i (passN s k P0)), .own⟩ := get_old (List.getElem?_set_self gn0)
                 have gFX : (G.set n ⟨fl cV (pass s i (passN s k P0)), .own⟩ ++ [])[n + 2]? = some ⟨fl cB s.fixed, .own⟩ := get_old (by rw [List.getElem?_set_ne (by omega)]; exact gF)
                 have gLX : (G.set n ⟨fl cV (pass s i (passN s k P0)), .own⟩ ++ [])[n + 3]? = some ⟨fl cF s.lens, .own⟩ := get_old (by rw [List.getElem?_set_ne (by omega)]; exact gL)
                 refine EvOps.step (n := 0) rfl ?_
                 refine EvOps.step (n := 0) rfl ?_
                 refine EvOps.nil ?_
                 simp only [KP, KH, KC, ↓reduceIte, Nat.reduceEqDiff, Nat.reduceAdd]
                 refine EvC.reg ?_
                 refine EvOps.step (n := 0) rfl ?_
                 refine EvOps.step (n := 0) rfl ?_
                 refine EvOps.call rfl rfl ?_
                 refine w72 (s := s) (P := pass s i (passN s k P0)) (i := i) gsX gPX gFX gLX (by rw [pass_len, passN_len]; exact hP0) ⟨by rw [pass_len, passN_len, hP0]; exact od, by rw [pass_len, passN_len, hP0]; omega, hix, by rw [pass_len, passN_len, hP0]; omega⟩ hne.1 ?_
                 rw [set_old (by simpa using gn0), List.set_set]
                 refine EvOps.nil ?_
                 simp only [KP, KH, KC, ↓reduceIte, Nat.reduceEqDiff, Nat.reduceAdd]
                 refine EvC.reg ?_
                 first | refine EvOps.addI rfl rfl (by omega) ?_ | refine EvOps.step (n := 0) rfl ?_
                 refine EvOps.step (n := 0) rfl ?_
                 refine EvOps.nil ?_
                 simp only [KP, KH, KC, ↓reduceIte, Nat.reduceEqDiff, Nat.reduceAdd]
                 exact ⟨s.lens.length - (i + 1), by omega, i + 1, rfl, by omega, rfl, rfl⟩
            · first
               | cases hc; done
               | refine EvC.exit ?_
                 refine EvC.reg ?_
                 first | refine EvOps.addI rfl rfl (by omega) ?_ | refine EvOps.step (n := 0) rfl ?_
                 refine EvOps.step (n := 0) rfl ?_
                 refine EvOps.nil ?_
                 simp only [KP, KH, KC, ↓reduceIte, Nat.reduceEqDiff, Nat.reduceAdd]
                 exact ⟨s.passes.toNat - (k + 1), by omega, k + 1, rfl, by omega, by
                   have : i = s.lens.length := by simp at hc; omega
                   subst this; rfl, rfl⟩
       · first
          | cases hc; done
          | refine EvC.exit ?_
            refine Res.fin rfl ?_
            have hk2 : k = s.passes.toNat := by simp at hc; omega
            subst hk2
            subst hG
            rw [set_old (by rw [S2_len]; omega), S2_set0, List.append_nil]
            refine Neat.no (by rfl) (((Chg.refl h).set n (blk := ⟨fl cV (passN s s.passes.toNat P0), .own⟩) (fl_lim _ _)).set (n + 1) (blk := ⟨fl cV (mv1 s s.pts.length).2, .own⟩) (fl_lim _ _)) ?_
            subst hP0e
            exact hq
end
end Go.V.Try
