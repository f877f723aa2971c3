import Derived.Test.YtemiffhfijlcaaaR2Str
set_option linter.unusedSimpArgs false
set_option linter.unusedVariables false
set_option linter.unusedSectionVars false
/-! Two neighbours are drawn. -/
namespace Go.V.Try
open Go Go.V
section
variable {h : H} {Q : AV → H → Prop}
set_option maxHeartbeats 4000000 in
/-- (*impl.String).pull -/
theorem w72 {bs n : Nat} {s : Str} {P : List Vec} {i : Nat} (hs : h[bs]? = some ⟨strCells n true s, .own⟩) (hP : h[n]? = some ⟨fl cV P, .own⟩) (hF : h[n + 2]? = some ⟨fl cB s.fixed, .own⟩) (hL : h[n + 3]? = some ⟨fl cF s.lens, .own⟩) (hp : P.length = s.pts.length) (hlen : s.fixed.length = P.length ∧ i + 1 < P.length ∧ i < s.lens.length ∧ P.length < 2 ^ 40) (hne : bs ≠ n) (hq : Q (.tup []) (h.set n ⟨fl cV (pl s P i), .own⟩)) : W Φ 72 [.p (some ⟨bs, 0⟩), i64 i] h Q := by
  have hs0 : rd h ((⟨bs, 0⟩ : Ref).add 0) = some (oP n true s) := rd_block hs (by decide) rfl
  have hs1 : rd h ((⟨bs, 0⟩ : Ref).add 1) = some (oB n true s) := rd_block hs (by decide) rfl
  have hs2 : rd h ((⟨bs, 0⟩ : Ref).add 2) = some (oF n true s) := rd_block hs (by decide) rfl
  have hs3 : rd h ((⟨bs, 0⟩ : Ref).add 3) = some (oL n true s) := rd_block hs (by decide) rfl
  have hs7 : rd h ((⟨bs, 0⟩ : Ref).add 7) = some (f32 s.damp) := rd_block hs (by decide) rfl
  have hs8 : rd h ((⟨bs, 0⟩ : Ref).add 8) = some (i64 s.passes) := rd_block hs (by decide) rfl
  have hs4 : rdn h ((⟨bs, 0⟩ : Ref).add 4) 3 = some (cV s.fall) := rdn_block hs (by decide) (by simp [Ref.add])
  have eA := rdE v0 hP (by decide) (by omega : i < P.length)
  have eB := rdE v0 hP (by decide) (by omega : i + 1 < P.length)
  have f0 := rd_of_rdn (rdE false hF (by decide) (by omega : i < s.fixed.length))
  have f1 := rd_of_rdn (rdE false hF (by decide) (by omega : i + 1 < s.fixed.length))
  have fl0 := rd_of_rdn (rdE 0 hL (by decide) (by omega : i < s.lens.length))
  have hn0 := at_lt hP
  have hbs := at_lt hs
  refine W.neatL (F := F72) rfl ?_
  refine EvC.seq ?_
  refine EvC.drwT (h.length + 0) (⟨cV (pA P i), .own⟩) rfl rfl ?_
  refine EvT.plain rfl rfl ?_
  refine EvT.plain rfl rfl ?_
  refine EvT.plain rfl rfl ?_
  first | refine EvT.ldL rfl rfl rfl (by first | assumption | omega | (dsimp only [Ref.add]; first | assumption | omega)) ?_ | refine EvT.ldH rfl rfl (by assumption) (by first | assumption | omega | (dsimp only [Ref.add]; first | assumption | omega)) ?_
  refine EvT.plain rfl rfl ?_
  refine EvT.iaJ (i) rfl rfl (by first | rfl | omega) (by omega) ?_
  first | refine EvT.ldnL rfl rfl rfl (by first | assumption | omega | (dsimp only [Ref.add]; first | assumption | omega)) ?_ | refine EvT.ldnH rfl rfl (by assumption) (by first | assumption | omega | (dsimp only [Ref.add]; first | assumption | omega)) ?_
  refine EvT.plain rfl rfl ?_
  refine EvT.plain rfl rfl ?_
  refine EvT.plain rfl rfl ?_
  first | refine EvT.ldL rfl rfl rfl (by first | assumption | omega | (dsimp only [Ref.add]; first | assumption | omega)) ?_ | refine EvT.ldH rfl rfl (by assumption) (by first | assumption | omega | (dsimp only [Ref.add]; first | assumption | omega)) ?_
  refine EvT.plain rfl rfl ?_
  first | refine EvT.addI rfl rfl (by omega) ?_ | refine EvT.plain rfl rfl ?_
  refine EvT.iaJ (i + 1) rfl rfl (by first | rfl | omega) (by omega) ?_
  first | refine EvT.ldnL rfl rfl rfl (by first | assumption | omega | (dsimp only [Ref.add]; first | assumption | omega)) ?_ | refine EvT.ldnH rfl rfl (by assumption) (by first | assumption | omega | (dsimp only [Ref.add]; first | assumption | omega)) ?_
  refine EvT.allocL rfl rfl (by first | exact .inl rfl | exact .inr (by omega)) ?_
  refine EvT.allocL rfl rfl (by first | exact .inl rfl | exact .inr (by omega)) ?_
  refine EvT.turnL rfl rfl rfl rfl rfl rfl rfl rfl ?_
  first | refine EvOps.stL rfl rfl rfl rfl ?_ | refine EvOps.stLm rfl rfl rfl rfl (by simp only [List.length_set, S2_len]) ?_ | refine EvOps.stH rfl rfl rfl (by assumption) ?_
  refine EvOps.nil ?_
  simp only [KP, KH, KC, ↓reduceIte, Nat.reduceEqDiff, Nat.reduceAdd]
  refine EvC.seq ?_
  refine EvC.reg ?_
  first | refine EvOps.ldnL rfl rfl rfl ?_ | refine EvOps.ldnLm rfl rfl rfl (by simp only [List.length_set, S2_len]) ?_ | refine EvOps.ldnH rfl rfl (by assumption) ?_
  first | refine EvOps.ldnL rfl rfl rfl ?_ | refine EvOps.ldnLm rfl rfl rfl (by simp only [List.length_set, S2_len]) ?_ | refine EvOps.ldnH rfl rfl (by assumption) ?_
  refine EvOps.call rfl rfl ?_
  refine w71 (u := (pB P i)) (v := (pA P i)) ?_
  refine EvOps.allocL rfl rfl ?_
  first | refine EvOps.stL rfl rfl rfl rfl ?_ | refine EvOps.stLm rfl rfl rfl rfl (by simp only [List.length_set, S2_len]) ?_ | refine EvOps.stH rfl rfl rfl (by assumption) ?_
  refine EvOps.nil ?_
  simp only [KP, KH, KC, ↓reduceIte, Nat.reduceEqDiff, Nat.reduceAdd]
  refine EvC.seq ?_
  refine EvC.reg ?_
  first | refine EvOps.ldnL rfl rfl rfl ?_ | refine EvOps.ldnLm rfl rfl rfl (by simp only [List.length_set, S2_len]) ?_ | refine EvOps.ldnH rfl rfl (by assumption) ?_
  refine EvOps.call rfl rfl ?_
  refine w75 (u := (dV P i)) ?_
  refine EvOps.step (n := 0) rfl ?_
  refine EvOps.nil ?_
  simp only [KP, KH, KC, ↓reduceIte, Nat.reduceEqDiff, Nat.reduceAdd]
  refine EvC.seq ?_
  refine EvC.seq ?_
  refine EvC.reg ?_
  refine EvOps.step (n := 0) rfl ?_
  refine EvOps.call rfl rfl ?_
  refine w84 (x := long (dV P i)) ?_
  refine EvOps.step (n := 0) rfl ?_
  refine EvOps.nil ?_
  simp only [KP, KH, KC, ↓reduceIte, Nat.reduceEqDiff, Nat.reduceAdd]
  refine EvC.condS rfl (fun hc => ?_) (fun hc => ?_)
  · first
     | cases hc; done
     | have hc32 := hc
       refine EvC.ret ?_
       refine Res.finR rfl ?_
       first | (exact fix_no hc75 hc85) | (exact fix_no hc85 hc75) | (have e := pl_n (s := s) hc32; exact leaf0 hP hq e) | (have e := pl_ff (P := P) hc75 hc67; exact leaf0 hP hq e) | (have e := pl_1 (P := P) hc32 hc75 hc67; exact leafN hq e) | (have e := pl_2 (P := P) hc32 hc75 hc103; exact leafN hq e) | (have e := pl_4 (P := P) hc32 hc75 hc103; exact leafN hq e)
  · first
     | cases hc; done
     | have hc32 := hc
       refine EvC.skip ?_
       refine EvC.seq ?_
       refine EvC.drw rfl ?_
       first | refine EvOps.ldnL rfl rfl rfl ?_ | refine EvOps.ldnLm rfl rfl rfl (by simp only [List.length_set, S2_len]) ?_ | refine EvOps.ldnH rfl rfl (by assumption) ?_
       refine EvOps.step (n := 0) rfl ?_
       refine EvOps.step (n := 0) rfl ?_
       refine EvOps.step (n := 0) rfl ?_
       refine EvOps.step (n := 0) rfl ?_
       first | refine EvOps.ldL rfl rfl rfl ?_ | refine EvOps.ldLm rfl rfl rfl (by simp only [List.length_set, S2_len]) ?_ | refine EvOps.ldH rfl rfl (by assumption) ?_
       refine EvOps.step (n := 0) rfl ?_
       first | refine EvOps.iaN rfl rfl (by omega) ?_
       first | refine EvOps.ldL rfl rfl rfl ?_ | refine EvOps.ldLm rfl rfl rfl (by simp only [List.length_set, S2_len]) ?_ | refine EvOps.ldH rfl rfl (by assumption) ?_
       first | refine EvOps.subI rfl rfl (by omega) ?_ | refine EvOps.step (n := 0) rfl ?_
       refine EvOps.step (n := 0) rfl ?_
       refine EvOps.step (n := 0) rfl ?_
       refine EvOps.call rfl rfl ?_
       refine w70 (u := (dV P i)) (k := qV s P i) ?_
       refine EvOps.allocL rfl rfl ?_
       first | refine EvOps.stL rfl rfl rfl rfl ?_ | refine EvOps.stLm rfl rfl rfl rfl (by simp only [List.length_set, S2_len]) ?_ | refine EvOps.stH rfl rfl rfl (by assumption) ?_
       refine EvOps.nil ?_
       simp only [KP, KH, KC, ↓reduceIte, Nat.reduceEqDiff, Nat.reduceAdd]
       refine EvC.block ?_
       refine EvC.seq ?_
       refine EvC.reg ?_
       refine EvOps.step (n := 0) rfl ?_
       refine EvOps.step (n := 0) rfl ?_
       refine EvOps.step (n := 0) rfl ?_
       first | refine EvOps.ldL rfl rfl rfl ?_ | refine EvOps.ldLm rfl rfl rfl (by simp only [List.length_set, S2_len]) ?_ | refine EvOps.ldH rfl rfl (by assumption) ?_
       refine EvOps.step (n := 0) rfl ?_
       first | refine EvOps.iaN rfl rfl (by omega) ?_
       first | refine EvOps.ldL rfl rfl rfl ?_ | refine EvOps.ldLm rfl rfl rfl (by simp only [List.length_set, S2_len]) ?_ | refine EvOps.ldH rfl rfl (by assumption) ?_
       refine EvOps.stepB (n := 0) rfl (fun hc => ?_) (fun hc => ?_)
       · first
          | cases hc; done
          | have hc75 := hc
            refine EvOps.step (n := 0) rfl ?_
            refine EvOps.step (n := 0) rfl ?_
            refine EvOps.step (n := 0) rfl ?_
            first | refine EvOps.ldL rfl rfl rfl ?_ | refine EvOps.ldLm rfl rfl rfl (by simp only [List.length_set, S2_len]) ?_ | refine EvOps.ldH rfl rfl (by assumption) ?_ | refine EvOps.step (n := 0) rfl ?_
            refine EvOps.step (n := 0) rfl ?_
            first | refine EvOps.addI rfl rfl (by omega) ?_ | refine EvOps.step (n := 0) rfl ?_
            first | refine EvOps.iaJ (i + 1) rfl rfl (by first | rfl | omega) (by omega) ?_ | refine EvOps.step (n := 0) rfl ?_
            first | refine EvOps.ldL rfl rfl rfl ?_ | refine EvOps.ldLm rfl rfl rfl (by simp only [List.length_set, S2_len]) ?_ | refine EvOps.ldH rfl rfl (by assumption) ?_ | refine EvOps.step (n := 0) rfl ?_
            refine EvOps.step (n := 0) rfl ?_
            refine EvOps.step (n := 0) rfl ?_
            refine EvOps.nil ?_
            simp only [KP, KH, KC, ↓reduceIte, Nat.reduceEqDiff, Nat.reduceAdd]
            refine EvC.condS rfl (fun hc => ?_) (fun hc => ?_)
            · first
               | cases hc; done
               | have hc67 := hc
                 refine EvC.skip ?_
                 refine Res.fin rfl ?_
                 first | (exact fix_no hc75 hc85) | (exact fix_no hc85 hc75) | (have e := pl_n (s := s) hc32; exact leaf0 hP hq e) | (have e := pl_ff (P := P) hc75 hc67; exact leaf0 hP hq e) | (have e := pl_1 (P := P) hc32 hc75 hc67; exact leafN hq e) | (have e := pl_2 (P := P) hc32 hc75 hc103; exact leafN hq e) | (have e := pl_4 (P := P) hc32 hc75 hc103; exact leafN hq e)
            · first
               | cases hc; done
               | have hc67 := hc
                 refine EvC.seq ?_
                 refine EvC.reg ?_
                 refine EvOps.step (n := 0) rfl ?_
                 refine EvOps.step (n := 0) rfl ?_
                 refine EvOps.step (n := 0) rfl ?_
                 first | refine EvOps.ldL rfl rfl rfl ?_ | refine EvOps.ldLm rfl rfl rfl (by simp only [List.length_set, S2_len]) ?_ | refine EvOps.ldH rfl rfl (by assumption) ?_
                 refine EvOps.step (n := 0) rfl ?_
                 first | refine EvOps.iaN rfl rfl (by omega) ?_
                 first | refine EvOps.ldL rfl rfl rfl ?_ | refine EvOps.ldLm rfl rfl rfl (by simp only [List.length_set, S2_len]) ?_ | refine EvOps.ldH rfl rfl (by assumption) ?_
                 refine EvOps.step (n := 0) rfl ?_
                 refine EvOps.nil ?_
                 simp only [KP, KH, KC, ↓reduceIte, Nat.reduceEqDiff, Nat.reduceAdd]
                 refine EvC.condS rfl (fun hc => ?_) (fun hc => ?_)
                 · first
                    | cases hc; done
                    | have hc85 := hc
                      refine EvC.drw rfl ?_
                      refine EvOps.step (n := 0) rfl ?_
                      refine EvOps.step (n := 0) rfl ?_
                      refine EvOps.step (n := 0) rfl ?_
                      first | refine EvOps.ldL rfl rfl rfl ?_ | refine EvOps.ldLm rfl rfl rfl (by simp only [List.length_set, S2_len]) ?_ | refine EvOps.ldH rfl rfl (by assumption) ?_
                      refine EvOps.step (n := 0) rfl ?_
                      first | refine EvOps.addI rfl rfl (by omega) ?_ | refine EvOps.step (n := 0) rfl ?_
                      first | refine EvOps.ldnL rfl rfl rfl ?_ | refine EvOps.ldnLm rfl rfl rfl (by simp only [List.length_set, S2_len]) ?_ | refine EvOps.ldnH rfl rfl (by assumption) ?_
                      first | refine EvOps.ldnL rfl rfl rfl ?_ | refine EvOps.ldnLm rfl rfl rfl (by simp only [List.length_set, S2_len]) ?_ | refine EvOps.ldnH rfl rfl (by assumption) ?_
                      refine EvOps.call rfl rfl ?_
                      refine w71 (u := (pB P i)) (v := (eV s P i)) ?_
                      first | refine EvOps.iaJ (i + 1) rfl rfl (by first | rfl | omega) (by omega) ?_
                      refine EvOps.stEH cV (P) ((pB P i).sub (eV s P i)) (b := n) (i := i + 1) rfl rfl hP (by first | omega | (simp; omega)) rfl ?_
                      refine EvOps.nil ?_
                      simp only [KP, KH, KC, ↓reduceIte, Nat.reduceEqDiff, Nat.reduceAdd]
                      refine Res.fin rfl ?_
                      first | (exact fix_no hc75 hc85) | (exact fix_no hc85 hc75) | (have e := pl_n (s := s) hc32; exact leaf0 hP hq e) | (have e := pl_ff (P := P) hc75 hc67; exact leaf0 hP hq e) | (have e := pl_1 (P := P) hc32 hc75 hc67; exact leafN hq e) | (have e := pl_2 (P := P) hc32 hc75 hc103; exact leafN hq e) | (have e := pl_4 (P := P) hc32 hc75 hc103; exact leafN hq e)
                 · first
                    | cases hc; done
                    | have hc85 := hc
                      refine EvC.seq ?_
                      refine EvC.reg ?_
                      refine EvOps.step (n := 0) rfl ?_
                      refine EvOps.step (n := 0) rfl ?_
                      refine EvOps.step (n := 0) rfl ?_
                      first | refine EvOps.ldL rfl rfl rfl ?_ | refine EvOps.ldLm rfl rfl rfl (by simp only [List.length_set, S2_len]) ?_ | refine EvOps.ldH rfl rfl (by assumption) ?_
                      refine EvOps.step (n := 0) rfl ?_
                      first | refine EvOps.addI rfl rfl (by omega) ?_ | refine EvOps.step (n := 0) rfl ?_
                      first | refine EvOps.iaJ (i + 1) rfl rfl (by first | rfl | omega) (by omega) ?_
                      first | refine EvOps.ldL rfl rfl rfl ?_ | refine EvOps.ldLm rfl rfl rfl (by simp only [List.length_set, S2_len]) ?_ | refine EvOps.ldH rfl rfl (by assumption) ?_
                      refine EvOps.step (n := 0) rfl ?_
                      refine EvOps.nil ?_
                      simp only [KP, KH, KC, ↓reduceIte, Nat.reduceEqDiff, Nat.reduceAdd]
                      refine EvC.condS rfl (fun hc => ?_) (fun hc => ?_)
                      · first
                         | cases hc; done
                         | have hc103 := hc
                           refine EvC.drw rfl ?_
                           refine EvOps.step (n := 0) rfl ?_
                           refine EvOps.step (n := 0) rfl ?_
                           refine EvOps.step (n := 0) rfl ?_
                           first | refine EvOps.ldL rfl rfl rfl ?_ | refine EvOps.ldLm rfl rfl rfl (by simp only [List.length_set, S2_len]) ?_ | refine EvOps.ldH rfl rfl (by assumption) ?_
                           refine EvOps.step (n := 0) rfl ?_
                           first | refine EvOps.ldnL rfl rfl rfl ?_ | refine EvOps.ldnLm rfl rfl rfl (by simp only [List.length_set, S2_len]) ?_ | refine EvOps.ldnH rfl rfl (by assumption) ?_
                           first | refine EvOps.ldnL rfl rfl rfl ?_ | refine EvOps.ldnLm rfl rfl rfl (by simp only [List.length_set, S2_len]) ?_ | refine EvOps.ldnH rfl rfl (by assumption) ?_
                           refine EvOps.call rfl rfl ?_
                           refine w69 (u := (pA P i)) (v := (eV s P i)) ?_
                           first | refine EvOps.iaN rfl rfl (by omega) ?_
                           refine EvOps.stEH cV (P) ((pA P i).add (eV s P i)) (b := n) (i := i) rfl rfl hP (by first | omega | (simp; omega)) rfl ?_
                           refine EvOps.nil ?_
                           simp only [KP, KH, KC, ↓reduceIte, Nat.reduceEqDiff, Nat.reduceAdd]
                           refine Res.fin rfl ?_
                           first | (exact fix_no hc75 hc85) | (exact fix_no hc85 hc75) | (have e := pl_n (s := s) hc32; exact leaf0 hP hq e) | (have e := pl_ff (P := P) hc75 hc67; exact leaf0 hP hq e) | (have e := pl_1 (P := P) hc32 hc75 hc67; exact leafN hq e) | (have e := pl_2 (P := P) hc32 hc75 hc103; exact leafN hq e) | (have e := pl_4 (P := P) hc32 hc75 hc103; exact leafN hq e)
                      · first
                         | cases hc; done
                         | have hc103 := hc
                           refine EvC.seq ?_
                           refine EvC.reg ?_
                           first | refine EvOps.ldnL rfl rfl rfl ?_ | refine EvOps.ldnLm rfl rfl rfl (by simp only [List.length_set, S2_len]) ?_ | refine EvOps.ldnH rfl rfl (by assumption) ?_
                           refine EvOps.call rfl rfl ?_
                           refine w70 (u := (eV s P i)) (k := 1056964608) ?_
                           refine EvOps.allocL rfl rfl ?_
                           first | refine EvOps.stL rfl rfl rfl rfl ?_ | refine EvOps.stLm rfl rfl rfl rfl (by simp only [List.length_set, S2_len]) ?_ | refine EvOps.stH rfl rfl rfl (by assumption) ?_
                           refine EvOps.nil ?_
                           simp only [KP, KH, KC, ↓reduceIte, Nat.reduceEqDiff, Nat.reduceAdd]
                           refine EvC.drwT (n) (⟨fl cV (P3 s P i), .own⟩) rfl rfl ?_
                           refine EvT.plain rfl rfl ?_
                           refine EvT.plain rfl rfl ?_
                           refine EvT.plain rfl rfl ?_
                           first | refine EvT.ldL rfl rfl rfl (by first | assumption | omega | (dsimp only [Ref.add]; first | assumption | omega)) ?_ | refine EvT.ldH rfl rfl (by assumption) (by first | assumption | omega | (dsimp only [Ref.add]; first | assumption | omega)) ?_
                           refine EvT.plain rfl rfl ?_
                           refine EvT.plain rfl rfl ?_
                           refine EvT.plain rfl rfl ?_
                           refine EvT.plain rfl rfl ?_
                           first | refine EvT.ldL rfl rfl rfl (by first | assumption | omega | (dsimp only [Ref.add]; first | assumption | omega)) ?_ | refine EvT.ldH rfl rfl (by assumption) (by first | assumption | omega | (dsimp only [Ref.add]; first | assumption | omega)) ?_
                           refine EvT.plain rfl rfl ?_
                           first | refine EvT.addI rfl rfl (by omega) ?_ | refine EvT.plain rfl rfl ?_
                           first | refine EvT.ldnL rfl rfl rfl (by first | assumption | omega | (dsimp only [Ref.add]; first | assumption | omega)) ?_ | refine EvT.ldnH rfl rfl (by assumption) (by first | assumption | omega | (dsimp only [Ref.add]; first | assumption | omega)) ?_
                           first | refine EvT.ldnL rfl rfl rfl (by first | assumption | omega | (dsimp only [Ref.add]; first | assumption | omega)) ?_ | refine EvT.ldnH rfl rfl (by assumption) (by first | assumption | omega | (dsimp only [Ref.add]; first | assumption | omega)) ?_
                           refine EvT.call rfl rfl rfl ?_
                           refine w69 (u := (pA P i)) (v := (hV s P i)) ?_
                           intro _
                           first | refine EvT.ldnL rfl rfl rfl (by first | assumption | omega | (dsimp only [Ref.add]; first | assumption | omega)) ?_ | refine EvT.ldnH rfl rfl (by assumption) (by first | assumption | omega | (dsimp only [Ref.add]; first | assumption | omega)) ?_
                           first | refine EvT.ldnL rfl rfl rfl (by first | assumption | omega | (dsimp only [Ref.add]; first | assumption | omega)) ?_ | refine EvT.ldnH rfl rfl (by assumption) (by first | assumption | omega | (dsimp only [Ref.add]; first | assumption | omega)) ?_
                           refine EvT.call rfl rfl rfl ?_
                           refine w71 (u := (pB P i)) (v := (hV s P i)) ?_
                           intro _
                           refine EvT.iaJ (i) rfl rfl (by first | rfl | omega) (by omega) ?_
                           refine EvT.turnH cV P ((pA P i).add (hV s P i)) (i := i) rfl rfl hP (by omega) rfl rfl ?_
                           first | refine EvOps.iaJ (i + 1) rfl rfl (by first | rfl | omega) (by omega) ?_
                           refine EvOps.stEH cV (P3 s P i) ((pB P i).sub (hV s P i)) (b := n) (i := i + 1) rfl rfl (List.getElem?_set_self hn0) (by first | omega | (simp; omega)) rfl ?_
                           rw [List.set_set]
                           refine EvOps.nil ?_
                           simp only [KP, KH, KC, ↓reduceIte, Nat.reduceEqDiff, Nat.reduceAdd]
                           refine Res.fin rfl ?_
                           first | (exact fix_no hc75 hc85) | (exact fix_no hc85 hc75) | (have e := pl_n (s := s) hc32; exact leaf0 hP hq e) | (have e := pl_ff (P := P) hc75 hc67; exact leaf0 hP hq e) | (have e := pl_1 (P := P) hc32 hc75 hc67; exact leafN hq e) | (have e := pl_2 (P := P) hc32 hc75 hc103; exact leafN hq e) | (have e := pl_4 (P := P) hc32 hc75 hc103; exact leafN hq e)
       · first
          | cases hc; done
          | have hc75 := hc
            refine EvOps.step (n := 0) rfl ?_
            refine EvOps.step (n := 0) rfl ?_
            refine EvOps.step (n := 0) rfl ?_
            first | refine EvOps.ldL rfl rfl rfl ?_ | refine EvOps.ldLm rfl rfl rfl (by simp only [List.length_set, S2_len]) ?_ | refine EvOps.ldH rfl rfl (by assumption) ?_ | refine EvOps.step (n := 0) rfl ?_
            refine EvOps.step (n := 0) rfl ?_
            first | refine EvOps.addI rfl rfl (by omega) ?_ | refine EvOps.step (n := 0) rfl ?_
            first | refine EvOps.iaJ (i + 1) rfl rfl (by first | rfl | omega) (by omega) ?_ | refine EvOps.step (n := 0) rfl ?_
            first | refine EvOps.ldL rfl rfl rfl ?_ | refine EvOps.ldLm rfl rfl rfl (by simp only [List.length_set, S2_len]) ?_ | refine EvOps.ldH rfl rfl (by assumption) ?_ | refine EvOps.step (n := 0) rfl ?_
            refine EvOps.step (n := 0) rfl ?_
            refine EvOps.step (n := 0) rfl ?_
            refine EvOps.nil ?_
            simp only [KP, KH, KC, ↓reduceIte, Nat.reduceEqDiff, Nat.reduceAdd]
            refine EvC.condN rfl ?_
            refine EvC.seq ?_
            refine EvC.reg ?_
            refine EvOps.step (n := 0) rfl ?_
            refine EvOps.step (n := 0) rfl ?_
            refine EvOps.step (n := 0) rfl ?_
            first | refine EvOps.ldL rfl rfl rfl ?_ | refine EvOps.ldLm rfl rfl rfl (by simp only [List.length_set, S2_len]) ?_ | refine EvOps.ldH rfl rfl (by assumption) ?_
            refine EvOps.step (n := 0) rfl ?_
            first | refine EvOps.iaN rfl rfl (by omega) ?_
            first | refine EvOps.ldL rfl rfl rfl ?_ | refine EvOps.ldLm rfl rfl rfl (by simp only [List.length_set, S2_len]) ?_ | refine EvOps.ldH rfl rfl (by assumption) ?_
            refine EvOps.step (n := 0) rfl ?_
            refine EvOps.nil ?_
            simp only [KP, KH, KC, ↓reduceIte, Nat.reduceEqDiff, Nat.reduceAdd]
            refine EvC.condS rfl (fun hc => ?_) (fun hc => ?_)
            · first
               | cases hc; done
               | have hc85 := hc
                 refine EvC.drw rfl ?_
                 refine EvOps.step (n := 0) rfl ?_
                 refine EvOps.step (n := 0) rfl ?_
                 refine EvOps.step (n := 0) rfl ?_
                 first | refine EvOps.ldL rfl rfl rfl ?_ | refine EvOps.ldLm rfl rfl rfl (by simp only [List.length_set, S2_len]) ?_ | refine EvOps.ldH rfl rfl (by assumption) ?_
                 refine EvOps.step (n := 0) rfl ?_
                 first | refine EvOps.addI rfl rfl (by omega) ?_ | refine EvOps.step (n := 0) rfl ?_
                 first | refine EvOps.ldnL rfl rfl rfl ?_ | refine EvOps.ldnLm rfl rfl rfl (by simp only [List.length_set, S2_len]) ?_ | refine EvOps.ldnH rfl rfl (by assumption) ?_
                 first | refine EvOps.ldnL rfl rfl rfl ?_ | refine EvOps.ldnLm rfl rfl rfl (by simp only [List.length_set, S2_len]) ?_ | refine EvOps.ldnH rfl rfl (by assumption) ?_
                 refine EvOps.call rfl rfl ?_
                 refine w71 (u := (pB P i)) (v := (eV s P i)) ?_
                 first | refine EvOps.iaJ (i + 1) rfl rfl (by first | rfl | omega) (by omega) ?_
                 refine EvOps.stEH cV (P) ((pB P i).sub (eV s P i)) (b := n) (i := i + 1) rfl rfl hP (by first | omega | (simp; omega)) rfl ?_
                 refine EvOps.nil ?_
                 simp only [KP, KH, KC, ↓reduceIte, Nat.reduceEqDiff, Nat.reduceAdd]
                 refine Res.fin rfl ?_
                 first | (exact fix_no hc75 hc85) | (exact fix_no hc85 hc75) | (have e := pl_n (s := s) hc32; exact leaf0 hP hq e) | (have e := pl_ff (P := P) hc75 hc67; exact leaf0 hP hq e) | (have e := pl_1 (P := P) hc32 hc75 hc67; exact leafN hq e) | (have e := pl_2 (P := P) hc32 hc75 hc103; exact leafN hq e) | (have e := pl_4 (P := P) hc32 hc75 hc103; exact leafN hq e)
            · first
               | cases hc; done
               | have hc85 := hc
                 refine EvC.seq ?_
                 refine EvC.reg ?_
                 refine EvOps.step (n := 0) rfl ?_
                 refine EvOps.step (n := 0) rfl ?_
                 refine EvOps.step (n := 0) rfl ?_
                 first | refine EvOps.ldL rfl rfl rfl ?_ | refine EvOps.ldLm rfl rfl rfl (by simp only [List.length_set, S2_len]) ?_ | refine EvOps.ldH rfl rfl (by assumption) ?_
                 refine EvOps.step (n := 0) rfl ?_
                 first | refine EvOps.addI rfl rfl (by omega) ?_ | refine EvOps.step (n := 0) rfl ?_
                 first | refine EvOps.iaJ (i + 1) rfl rfl (by first | rfl | omega) (by omega) ?_
                 first | refine EvOps.ldL rfl rfl rfl ?_ | refine EvOps.ldLm rfl rfl rfl (by simp only [List.length_set, S2_len]) ?_ | refine EvOps.ldH rfl rfl (by assumption) ?_
                 refine EvOps.step (n := 0) rfl ?_
                 refine EvOps.nil ?_
                 simp only [KP, KH, KC, ↓reduceIte, Nat.reduceEqDiff, Nat.reduceAdd]
                 refine EvC.condS rfl (fun hc => ?_) (fun hc => ?_)
                 · first
                    | cases hc; done
                    | have hc103 := hc
                      refine EvC.drw rfl ?_
                      refine EvOps.step (n := 0) rfl ?_
                      refine EvOps.step (n := 0) rfl ?_
                      refine EvOps.step (n := 0) rfl ?_
                      first | refine EvOps.ldL rfl rfl rfl ?_ | refine EvOps.ldLm rfl rfl rfl (by simp only [List.length_set, S2_len]) ?_ | refine EvOps.ldH rfl rfl (by assumption) ?_
                      refine EvOps.step (n := 0) rfl ?_
                      first | refine EvOps.ldnL rfl rfl rfl ?_ | refine EvOps.ldnLm rfl rfl rfl (by simp only [List.length_set, S2_len]) ?_ | refine EvOps.ldnH rfl rfl (by assumption) ?_
                      first | refine EvOps.ldnL rfl rfl rfl ?_ | refine EvOps.ldnLm rfl rfl rfl (by simp only [List.length_set, S2_len]) ?_ | refine EvOps.ldnH rfl rfl (by assumption) ?_
                      refine EvOps.call rfl rfl ?_
                      refine w69 (u := (pA P i)) (v := (eV s P i)) ?_
                      first | refine EvOps.iaN rfl rfl (by omega) ?_
                      refine EvOps.stEH cV (P) ((pA P i).add (eV s P i)) (b := n) (i := i) rfl rfl hP (by first | omega | (simp; omega)) rfl ?_
                      refine EvOps.nil ?_
                      simp only [KP, KH, KC, ↓reduceIte, Nat.reduceEqDiff, Nat.reduceAdd]
                      refine Res.fin rfl ?_
                      first | (exact fix_no hc75 hc85) | (exact fix_no hc85 hc75) | (have e := pl_n (s := s) hc32; exact leaf0 hP hq e) | (have e := pl_ff (P := P) hc75 hc67; exact leaf0 hP hq e) | (have e := pl_1 (P := P) hc32 hc75 hc67; exact leafN hq e) | (have e := pl_2 (P := P) hc32 hc75 hc103; exact leafN hq e) | (have e := pl_4 (P := P) hc32 hc75 hc103; exact leafN hq e)
                 · first
                    | cases hc; done
                    | have hc103 := hc
                      refine EvC.seq ?_
                      refine EvC.reg ?_
                      first | refine EvOps.ldnL rfl rfl rfl ?_ | refine EvOps.ldnLm rfl rfl rfl (by simp only [List.length_set, S2_len]) ?_ | refine EvOps.ldnH rfl rfl (by assumption) ?_
                      refine EvOps.call rfl rfl ?_
                      refine w70 (u := (eV s P i)) (k := 1056964608) ?_
                      refine EvOps.allocL rfl rfl ?_
                      first | refine EvOps.stL rfl rfl rfl rfl ?_ | refine EvOps.stLm rfl rfl rfl rfl (by simp only [List.length_set, S2_len]) ?_ | refine EvOps.stH rfl rfl rfl (by assumption) ?_
                      refine EvOps.nil ?_
                      simp only [KP, KH, KC, ↓reduceIte, Nat.reduceEqDiff, Nat.reduceAdd]
                      refine EvC.drwT (n) (⟨fl cV (P3 s P i), .own⟩) rfl rfl ?_
                      refine EvT.plain rfl rfl ?_
                      refine EvT.plain rfl rfl ?_
                      refine EvT.plain rfl rfl ?_
                      first | refine EvT.ldL rfl rfl rfl (by first | assumption | omega | (dsimp only [Ref.add]; first | assumption | omega)) ?_ | refine EvT.ldH rfl rfl (by assumption) (by first | assumption | omega | (dsimp only [Ref.add]; first | assumption | omega)) ?_
                      refine EvT.plain rfl rfl ?_
                      refine EvT.plain rfl rfl ?_
                      refine EvT.plain rfl rfl ?_
                      refine EvT.plain rfl rfl ?_
                      first | refine EvT.ldL rfl rfl rfl (by first | assumption | omega | (dsimp only [Ref.add]; first | assumption | omega)) ?_ | refine EvT.ldH rfl rfl (by assumption) (by first | assumption | omega | (dsimp only [Ref.add]; first | assumption | omega)) ?_
                      refine EvT.plain rfl rfl ?_
                      first | refine EvT.addI rfl rfl (by omega) ?_ | refine EvT.plain rfl rfl ?_
                      first | refine EvT.ldnL rfl rfl rfl (by first | assumption | omega | (dsimp only [Ref.add]; first | assumption | omega)) ?_ | refine EvT.ldnH rfl rfl (by assumption) (by first | assumption | omega | (dsimp only [Ref.add]; first | assumption | omega)) ?_
                      first | refine EvT.ldnL rfl rfl rfl (by first | assumption | omega | (dsimp only [Ref.add]; first | assumption | omega)) ?_ | refine EvT.ldnH rfl rfl (by assumption) (by first | assumption | omega | (dsimp only [Ref.add]; first | assumption | omega)) ?_
                      refine EvT.call rfl rfl rfl ?_
                      refine w69 (u := (pA P i)) (v := (hV s P i)) ?_
                      intro _
                      first | refine EvT.ldnL rfl rfl rfl (by first | assumption | omega | (dsimp only [Ref.add]; first | assumption | omega)) ?_ | refine EvT.ldnH rfl rfl (by assumption) (by first | assumption | omega | (dsimp only [Ref.add]; first | assumption | omega)) ?_
                      first | refine EvT.ldnL rfl rfl rfl (by first | assumption | omega | (dsimp only [Ref.add]; first | assumption | omega)) ?_ | refine EvT.ldnH rfl rfl (by assumption) (by first | assumption | omega | (dsimp only [Ref.add]; first | assumption | omega)) ?_
                      refine EvT.call rfl rfl rfl ?_
                      refine w71 (u := (pB P i)) (v := (hV s P i)) ?_
                      intro _
                      refine EvT.iaJ (i) rfl rfl (by first | rfl | omega) (by omega) ?_
                      refine EvT.turnH cV P ((pA P i).add (hV s P i)) (i := i) rfl rfl hP (by omega) rfl rfl ?_
                      first | refine EvOps.iaJ (i + 1) rfl rfl (by first | rfl | omega) (by omega) ?_
                      refine EvOps.stEH cV (P3 s P i) ((pB P i).sub (hV s P i)) (b := n) (i := i + 1) rfl rfl (List.getElem?_set_self hn0) (by first | omega | (simp; omega)) rfl ?_
                      rw [List.set_set]
                      refine EvOps.nil ?_
                      simp only [KP, KH, KC, ↓reduceIte, Nat.reduceEqDiff, Nat.reduceAdd]
                      refine Res.fin rfl ?_
                      first | (exact fix_no hc75 hc85) | (exact fix_no hc85 hc75) | (have e := pl_n (s := s) hc32; exact leaf0 hP hq e) | (have e := pl_ff (P := P) hc75 hc67; exact leaf0 hP hq e) | (have e := pl_1 (P := P) hc32 hc75 hc67; exact leafN hq e) | (have e := pl_2 (P := P) hc32 hc75 hc103; exact leafN hq e) | (have e := pl_4 (P := P) hc32 hc75 hc103; exact leafN hq e)
set_option maxHeartbeats 4000000 in
/-- spec.l08Pass -/
theorem w81 {bs n : Nat} {s : Str} {P : List Vec} {i : Nat} (hs : h[bs]? = some ⟨strCells n true s, .own⟩) (hP : h[n]? = some ⟨fl cV P, .own⟩) (hF : h[n + 2]? = some ⟨fl cB s.fixed, .own⟩) (hL : h[n + 3]? = some ⟨fl cF s.lens, .own⟩) (hp : P.length = s.pts.length) (hlen : s.fixed.length = P.length ∧ i + 1 < P.length ∧ i < s.lens.length ∧ P.length < 2 ^ 40) (hne : bs ≠ n) (hne : bs ≠ n) (hq : Q (.tup []) (h.set n ⟨fl cV (pl s P i), .own⟩)) : W Φ 81 [.p (some ⟨bs, 0⟩), i64 i] h Q := by
  have hs0 : rd h ((⟨bs, 0⟩ : Ref).add 0) = some (oP n true s) := rd_block hs (by decide) rfl
  have hs1 : rd h ((⟨bs, 0⟩ : Ref).add 1) = some (oB n true s) := rd_block hs (by decide) rfl
  have hs2 : rd h ((⟨bs, 0⟩ : Ref).add 2) = some (oF n true s) := rd_block hs (by decide) rfl
  have hs3 : rd h ((⟨bs, 0⟩ : Ref).add 3) = some (oL n true s) := rd_block hs (by decide) rfl
  have hs7 : rd h ((⟨bs, 0⟩ : Ref).add 7) = some (f32 s.damp) := rd_block hs (by decide) rfl
  have hs8 : rd h ((⟨bs, 0⟩ : Ref).add 8) = some (i64 s.passes) := rd_block hs (by decide) rfl
  have hs4 : rdn h ((⟨bs, 0⟩ : Ref).add 4) 3 = some (cV s.fall) := rdn_block hs (by decide) (by simp [Ref.add])
  have eA := rdE v0 hP (by decide) (by omega : i < P.length)
  have eB := rdE v0 hP (by decide) (by omega : i + 1 < P.length)
  have f0 := rd_of_rdn (rdE false hF (by decide) (by omega : i < s.fixed.length))
  have f1 := rd_of_rdn (rdE false hF (by decide) (by omega : i + 1 < s.fixed.length))
  have fl0 := rd_of_rdn (rdE 0 hL (by decide) (by omega : i < s.lens.length))
  have hn0 := at_lt hP
  have hbs := at_lt hs
  refine W.neatL (F := F81) rfl ?_
  refine EvC.seq ?_
  refine EvC.reg ?_
  refine EvOps.step (n := 0) rfl ?_
  refine EvOps.step (n := 0) rfl ?_
  refine EvOps.step (n := 0) rfl ?_
  first | refine EvOps.ldL rfl rfl rfl ?_ | refine EvOps.ldLm rfl rfl rfl (by simp only [List.length_set, S2_len]) ?_ | refine EvOps.ldH rfl rfl (by assumption) ?_
  refine EvOps.step (n := 0) rfl ?_
  first | refine EvOps.iaN rfl rfl (by omega) ?_
  first | refine EvOps.ldnL rfl rfl rfl ?_ | refine EvOps.ldnLm rfl rfl rfl (by simp only [List.length_set, S2_len]) ?_ | refine EvOps.ldnH rfl rfl (by assumption) ?_
  refine EvOps.allocL rfl rfl ?_
  first | refine EvOps.stL rfl rfl rfl rfl ?_ | refine EvOps.stLm rfl rfl rfl rfl (by simp only [List.length_set, S2_len]) ?_ | refine EvOps.stH rfl rfl rfl (by assumption) ?_
  refine EvOps.nil ?_
  simp only [KP, KH, KC, ↓reduceIte, Nat.reduceEqDiff, Nat.reduceAdd]
  refine EvC.seq ?_
  refine EvC.reg ?_
  refine EvOps.step (n := 0) rfl ?_
  refine EvOps.step (n := 0) rfl ?_
  refine EvOps.step (n := 0) rfl ?_
  first | refine EvOps.ldL rfl rfl rfl ?_ | refine EvOps.ldLm rfl rfl rfl (by simp only [List.length_set, S2_len]) ?_ | refine EvOps.ldH rfl rfl (by assumption) ?_
  refine EvOps.step (n := 0) rfl ?_
  first | refine EvOps.addI rfl rfl (by omega) ?_ | refine EvOps.step (n := 0) rfl ?_
  first | refine EvOps.iaJ (i + 1) rfl rfl (by first | rfl | omega) (by omega) ?_
  first | refine EvOps.ldnL rfl rfl rfl ?_ | refine EvOps.ldnLm rfl rfl rfl (by simp only [List.length_set, S2_len]) ?_ | refine EvOps.ldnH rfl rfl (by assumption) ?_
  refine EvOps.allocL rfl rfl ?_
  first | refine EvOps.stL rfl rfl rfl rfl ?_ | refine EvOps.stLm rfl rfl rfl rfl (by simp only [List.length_set, S2_len]) ?_ | refine EvOps.stH rfl rfl rfl (by assumption) ?_
  refine EvOps.nil ?_
  simp only [KP, KH, KC, ↓reduceIte, Nat.reduceEqDiff, Nat.reduceAdd]
  refine EvC.seq ?_
  refine EvC.reg ?_
  first | refine EvOps.ldnL rfl rfl rfl ?_ | refine EvOps.ldnLm rfl rfl rfl (by simp only [List.length_set, S2_len]) ?_ | refine EvOps.ldnH rfl rfl (by assumption) ?_
  first | refine EvOps.ldnL rfl rfl rfl ?_ | refine EvOps.ldnLm rfl rfl rfl (by simp only [List.length_set, S2_len]) ?_ | refine EvOps.ldnH rfl rfl (by assumption) ?_
  refine EvOps.call rfl rfl ?_
  refine w80 (u := (pB P i)) (v := (pA P i)) ?_
  refine EvOps.allocL rfl rfl ?_
  first | refine EvOps.stL rfl rfl rfl rfl ?_ | refine EvOps.stLm rfl rfl rfl rfl (by simp only [List.length_set, S2_len]) ?_ | refine EvOps.stH rfl rfl rfl (by assumption) ?_
  refine EvOps.nil ?_
  simp only [KP, KH, KC, ↓reduceIte, Nat.reduceEqDiff, Nat.reduceAdd]
  refine EvC.seq ?_
  refine EvC.reg ?_
  first | refine EvOps.ldnL rfl rfl rfl ?_ | refine EvOps.ldnLm rfl rfl rfl (by simp only [List.length_set, S2_len]) ?_ | refine EvOps.ldnH rfl rfl (by assumption) ?_
  refine EvOps.call rfl rfl ?_
  refine w91 (u := (dV P i)) ?_
  refine EvOps.step (n := 0) rfl ?_
  refine EvOps.nil ?_
  simp only [KP, KH, KC, ↓reduceIte, Nat.reduceEqDiff, Nat.reduceAdd]
  refine EvC.seq ?_
  refine EvC.seq ?_
  refine EvC.reg ?_
  refine EvOps.step (n := 0) rfl ?_
  refine EvOps.step (n := 0) rfl ?_
  refine EvOps.stepB (n := 0) rfl (fun hc => ?_) (fun hc => ?_)
  · first
     | cases hc; done
     | have hc31 := hc
       refine EvOps.step (n := 0) rfl ?_
       first
        | (refine EvOps.call rfl rfl ?_; refine w92 (x := long (dV P i)) ?_)
        | refine EvOps.step (n := 0) rfl ?_
       refine EvOps.step (n := 0) rfl ?_
       refine EvOps.step (n := 0) rfl ?_
       refine EvOps.step (n := 0) rfl ?_
       refine EvOps.step (n := 0) rfl ?_
       refine EvOps.step (n := 0) rfl ?_
       refine EvOps.step (n := 0) rfl ?_
       first | refine EvOps.ldL rfl rfl rfl ?_ | refine EvOps.ldLm rfl rfl rfl (by simp only [List.length_set, S2_len]) ?_ | refine EvOps.ldH rfl rfl (by assumption) ?_ | refine EvOps.step (n := 0) rfl ?_
       refine EvOps.step (n := 0) rfl ?_
       first | refine EvOps.iaN rfl rfl (by omega) ?_ | refine EvOps.step (n := 0) rfl ?_
       first | refine EvOps.ldL rfl rfl rfl ?_ | refine EvOps.ldLm rfl rfl rfl (by simp only [List.length_set, S2_len]) ?_ | refine EvOps.ldH rfl rfl (by assumption) ?_ | refine EvOps.step (n := 0) rfl ?_
       refine EvOps.step (n := 0) rfl ?_
       refine EvOps.step (n := 0) rfl ?_
       refine EvOps.step (n := 0) rfl ?_
       refine EvOps.step (n := 0) rfl ?_
       first | refine EvOps.ldL rfl rfl rfl ?_ | refine EvOps.ldLm rfl rfl rfl (by simp only [List.length_set, S2_len]) ?_ | refine EvOps.ldH rfl rfl (by assumption) ?_ | refine EvOps.step (n := 0) rfl ?_
       refine EvOps.step (n := 0) rfl ?_
       first | refine EvOps.addI rfl rfl (by omega) ?_ | refine EvOps.step (n := 0) rfl ?_
       first | refine EvOps.iaJ (i + 1) rfl rfl (by first | rfl | omega) (by omega) ?_ | refine EvOps.step (n := 0) rfl ?_
       first | refine EvOps.ldL rfl rfl rfl ?_ | refine EvOps.ldLm rfl rfl rfl (by simp only [List.length_set, S2_len]) ?_ | refine EvOps.ldH rfl rfl (by assumption) ?_ | refine EvOps.step (n := 0) rfl ?_
       refine EvOps.step (n := 0) rfl ?_
       refine EvOps.step (n := 0) rfl ?_
       refine EvOps.nil ?_
       simp only [KP, KH, KC, ↓reduceIte, Nat.reduceEqDiff, Nat.reduceAdd]
       refine EvC.condY rfl ?_
       refine EvC.ret ?_
       refine Res.finR rfl ?_
       first | (exact fix_no hc44 hc89) | (exact fix_no hc89 hc44) | (have e := pl_n (s := s) (pl_c0 (P := P) (i := i) hc31); exact leaf0 hP hq e) | (have e := pl_n (s := s) (pl_c1 (P := P) (i := i) hc36); exact leaf0 hP hq e) | (have e := pl_ff (P := P) hc44 hc54; exact leaf0 hP hq e) | (have e := pl_1 (P := P) (pl_c (P := P) (i := i) hc31 hc36) hc44 hc54; exact leafN hq e) | (have e := pl_2 (P := P) (pl_c (P := P) (i := i) hc31 hc36) hc44 hc107; exact leafN hq e) | (have e := pl_4 (P := P) (pl_c (P := P) (i := i) hc31 hc36) hc44 hc107; exact leafN hq e)
  · first
     | cases hc; done
     | have hc31 := hc
       refine EvOps.step (n := 0) rfl ?_
       first
        | (refine EvOps.call rfl rfl ?_; refine w92 (x := long (dV P i)) ?_)
        | refine EvOps.step (n := 0) rfl ?_
       refine EvOps.step (n := 0) rfl ?_
       refine EvOps.step (n := 0) rfl ?_
       refine EvOps.stepB (n := 0) rfl (fun hc => ?_) (fun hc => ?_)
       · first
          | cases hc; done
          | have hc36 := hc
            refine EvOps.step (n := 0) rfl ?_
            refine EvOps.step (n := 0) rfl ?_
            refine EvOps.step (n := 0) rfl ?_
            first | refine EvOps.ldL rfl rfl rfl ?_ | refine EvOps.ldLm rfl rfl rfl (by simp only [List.length_set, S2_len]) ?_ | refine EvOps.ldH rfl rfl (by assumption) ?_ | refine EvOps.step (n := 0) rfl ?_
            refine EvOps.step (n := 0) rfl ?_
            first | refine EvOps.iaN rfl rfl (by omega) ?_ | refine EvOps.step (n := 0) rfl ?_
            first | refine EvOps.ldL rfl rfl rfl ?_ | refine EvOps.ldLm rfl rfl rfl (by simp only [List.length_set, S2_len]) ?_ | refine EvOps.ldH rfl rfl (by assumption) ?_ | refine EvOps.step (n := 0) rfl ?_
            refine EvOps.step (n := 0) rfl ?_
            refine EvOps.step (n := 0) rfl ?_
            refine EvOps.step (n := 0) rfl ?_
            refine EvOps.step (n := 0) rfl ?_
            first | refine EvOps.ldL rfl rfl rfl ?_ | refine EvOps.ldLm rfl rfl rfl (by simp only [List.length_set, S2_len]) ?_ | refine EvOps.ldH rfl rfl (by assumption) ?_ | refine EvOps.step (n := 0) rfl ?_
            refine EvOps.step (n := 0) rfl ?_
            first | refine EvOps.addI rfl rfl (by omega) ?_ | refine EvOps.step (n := 0) rfl ?_
            first | refine EvOps.iaJ (i + 1) rfl rfl (by first | rfl | omega) (by omega) ?_ | refine EvOps.step (n := 0) rfl ?_
            first | refine EvOps.ldL rfl rfl rfl ?_ | refine EvOps.ldLm rfl rfl rfl (by simp only [List.length_set, S2_len]) ?_ | refine EvOps.ldH rfl rfl (by assumption) ?_ | refine EvOps.step (n := 0) rfl ?_
            refine EvOps.step (n := 0) rfl ?_
            refine EvOps.step (n := 0) rfl ?_
            refine EvOps.nil ?_
            simp only [KP, KH, KC, ↓reduceIte, Nat.reduceEqDiff, Nat.reduceAdd]
            refine EvC.condY rfl ?_
            refine EvC.ret ?_
            refine Res.finR rfl ?_
            first | (exact fix_no hc44 hc89) | (exact fix_no hc89 hc44) | (have e := pl_n (s := s) (pl_c0 (P := P) (i := i) hc31); exact leaf0 hP hq e) | (have e := pl_n (s := s) (pl_c1 (P := P) (i := i) hc36); exact leaf0 hP hq e) | (have e := pl_ff (P := P) hc44 hc54; exact leaf0 hP hq e) | (have e := pl_1 (P := P) (pl_c (P := P) (i := i) hc31 hc36) hc44 hc54; exact leafN hq e) | (have e := pl_2 (P := P) (pl_c (P := P) (i := i) hc31 hc36) hc44 hc107; exact leafN hq e) | (have e := pl_4 (P := P) (pl_c (P := P) (i := i) hc31 hc36) hc44 hc107; exact leafN hq e)
       · first
          | cases hc; done
          | have hc36 := hc
            refine EvOps.step (n := 0) rfl ?_
            refine EvOps.step (n := 0) rfl ?_
            refine EvOps.step (n := 0) rfl ?_
            first | refine EvOps.ldL rfl rfl rfl ?_ | refine EvOps.ldLm rfl rfl rfl (by simp only [List.length_set, S2_len]) ?_ | refine EvOps.ldH rfl rfl (by assumption) ?_ | refine EvOps.step (n := 0) rfl ?_
            refine EvOps.step (n := 0) rfl ?_
            first | refine EvOps.iaN rfl rfl (by omega) ?_ | refine EvOps.step (n := 0) rfl ?_
            first | refine EvOps.ldL rfl rfl rfl ?_ | refine EvOps.ldLm rfl rfl rfl (by simp only [List.length_set, S2_len]) ?_ | refine EvOps.ldH rfl rfl (by assumption) ?_ | refine EvOps.step (n := 0) rfl ?_
            first
              | refine EvOps.step (n := 0) rfl ?_
                refine EvOps.step (n := 0) rfl ?_
                refine EvOps.step (n := 0) rfl ?_
                refine EvOps.step (n := 0) rfl ?_
                first | refine EvOps.ldL rfl rfl rfl ?_ | refine EvOps.ldLm rfl rfl rfl (by simp only [List.length_set, S2_len]) ?_ | refine EvOps.ldH rfl rfl (by assumption) ?_ | refine EvOps.step (n := 0) rfl ?_
                refine EvOps.step (n := 0) rfl ?_
                first | refine EvOps.addI rfl rfl (by omega) ?_ | refine EvOps.step (n := 0) rfl ?_
                first | refine EvOps.iaJ (i + 1) rfl rfl (by first | rfl | omega) (by omega) ?_ | refine EvOps.step (n := 0) rfl ?_
                first | refine EvOps.ldL rfl rfl rfl ?_ | refine EvOps.ldLm rfl rfl rfl (by simp only [List.length_set, S2_len]) ?_ | refine EvOps.ldH rfl rfl (by assumption) ?_ | refine EvOps.step (n := 0) rfl ?_
                refine EvOps.step (n := 0) rfl ?_
                refine EvOps.step (n := 0) rfl ?_
                refine EvOps.nil ?_
                simp only [KP, KH, KC, ↓reduceIte, Nat.reduceEqDiff, Nat.reduceAdd]
                refine EvC.condS rfl (fun hc => ?_) (fun hc => ?_)
                · first
                   | cases hc; done
                   | have hc54 := hc
                     refine EvC.ret ?_
                     refine Res.finR rfl ?_
                     first | (exact fix_no hc44 hc89) | (exact fix_no hc89 hc44) | (have e := pl_n (s := s) (pl_c0 (P := P) (i := i) hc31); exact leaf0 hP hq e) | (have e := pl_n (s := s) (pl_c1 (P := P) (i := i) hc36); exact leaf0 hP hq e) | (have e := pl_ff (P := P) hc44 hc54; exact leaf0 hP hq e) | (have e := pl_1 (P := P) (pl_c (P := P) (i := i) hc31 hc36) hc44 hc54; exact leafN hq e) | (have e := pl_2 (P := P) (pl_c (P := P) (i := i) hc31 hc36) hc44 hc107; exact leafN hq e) | (have e := pl_4 (P := P) (pl_c (P := P) (i := i) hc31 hc36) hc44 hc107; exact leafN hq e)
                · first
                   | cases hc; done
                   | have hc54 := hc
                     refine EvC.skip ?_
                     refine EvC.seq ?_
                     refine EvC.drw rfl ?_
                     first | refine EvOps.ldnL rfl rfl rfl ?_ | refine EvOps.ldnLm rfl rfl rfl (by simp only [List.length_set, S2_len]) ?_ | refine EvOps.ldnH rfl rfl (by assumption) ?_
                     refine EvOps.step (n := 0) rfl ?_
                     refine EvOps.step (n := 0) rfl ?_
                     refine EvOps.step (n := 0) rfl ?_
                     refine EvOps.step (n := 0) rfl ?_
                     first | refine EvOps.ldL rfl rfl rfl ?_ | refine EvOps.ldLm rfl rfl rfl (by simp only [List.length_set, S2_len]) ?_ | refine EvOps.ldH rfl rfl (by assumption) ?_
                     refine EvOps.step (n := 0) rfl ?_
                     first | refine EvOps.iaN rfl rfl (by omega) ?_
                     first | refine EvOps.ldL rfl rfl rfl ?_ | refine EvOps.ldLm rfl rfl rfl (by simp only [List.length_set, S2_len]) ?_ | refine EvOps.ldH rfl rfl (by assumption) ?_
                     first | refine EvOps.subI rfl rfl (by omega) ?_ | refine EvOps.step (n := 0) rfl ?_
                     refine EvOps.step (n := 0) rfl ?_
                     refine EvOps.step (n := 0) rfl ?_
                     refine EvOps.call rfl rfl ?_
                     refine w79 (u := (dV P i)) (k := qV s P i) ?_
                     refine EvOps.allocL rfl rfl ?_
                     first | refine EvOps.stL rfl rfl rfl rfl ?_ | refine EvOps.stLm rfl rfl rfl rfl (by simp only [List.length_set, S2_len]) ?_ | refine EvOps.stH rfl rfl rfl (by assumption) ?_
                     refine EvOps.nil ?_
                     simp only [KP, KH, KC, ↓reduceIte, Nat.reduceEqDiff, Nat.reduceAdd]
                     refine EvC.block ?_
                     refine EvC.seq ?_
                     refine EvC.reg ?_
                     refine EvOps.step (n := 0) rfl ?_
                     refine EvOps.step (n := 0) rfl ?_
                     refine EvOps.step (n := 0) rfl ?_
                     first | refine EvOps.ldL rfl rfl rfl ?_ | refine EvOps.ldLm rfl rfl rfl (by simp only [List.length_set, S2_len]) ?_ | refine EvOps.ldH rfl rfl (by assumption) ?_
                     refine EvOps.step (n := 0) rfl ?_
                     first | refine EvOps.iaN rfl rfl (by omega) ?_
                     first | refine EvOps.ldL rfl rfl rfl ?_ | refine EvOps.ldLm rfl rfl rfl (by simp only [List.length_set, S2_len]) ?_ | refine EvOps.ldH rfl rfl (by assumption) ?_
                     refine EvOps.step (n := 0) rfl ?_
                     refine EvOps.nil ?_
                     simp only [KP, KH, KC, ↓reduceIte, Nat.reduceEqDiff, Nat.reduceAdd]
                     refine EvC.condS rfl (fun hc => ?_) (fun hc => ?_)
                     · first
                        | cases hc; done
                        | have hc89 := hc
                          refine EvC.drw rfl ?_
                          refine EvOps.step (n := 0) rfl ?_
                          refine EvOps.step (n := 0) rfl ?_
                          refine EvOps.step (n := 0) rfl ?_
                          first | refine EvOps.ldL rfl rfl rfl ?_ | refine EvOps.ldLm rfl rfl rfl (by simp only [List.length_set, S2_len]) ?_ | refine EvOps.ldH rfl rfl (by assumption) ?_
                          refine EvOps.step (n := 0) rfl ?_
                          first | refine EvOps.addI rfl rfl (by omega) ?_ | refine EvOps.step (n := 0) rfl ?_
                          first | refine EvOps.ldnL rfl rfl rfl ?_ | refine EvOps.ldnLm rfl rfl rfl (by simp only [List.length_set, S2_len]) ?_ | refine EvOps.ldnH rfl rfl (by assumption) ?_
                          first | refine EvOps.ldnL rfl rfl rfl ?_ | refine EvOps.ldnLm rfl rfl rfl (by simp only [List.length_set, S2_len]) ?_ | refine EvOps.ldnH rfl rfl (by assumption) ?_
                          refine EvOps.call rfl rfl ?_
                          refine w80 (u := (pB P i)) (v := (eV s P i)) ?_
                          first | refine EvOps.iaJ (i + 1) rfl rfl (by first | rfl | omega) (by omega) ?_
                          refine EvOps.stEH cV (P) ((pB P i).sub (eV s P i)) (b := n) (i := i + 1) rfl rfl hP (by first | omega | (simp; omega)) rfl ?_
                          refine EvOps.nil ?_
                          simp only [KP, KH, KC, ↓reduceIte, Nat.reduceEqDiff, Nat.reduceAdd]
                          refine Res.fin rfl ?_
                          first | (exact fix_no hc44 hc89) | (exact fix_no hc89 hc44) | (have e := pl_n (s := s) (pl_c0 (P := P) (i := i) hc31); exact leaf0 hP hq e) | (have e := pl_n (s := s) (pl_c1 (P := P) (i := i) hc36); exact leaf0 hP hq e) | (have e := pl_ff (P := P) hc44 hc54; exact leaf0 hP hq e) | (have e := pl_1 (P := P) (pl_c (P := P) (i := i) hc31 hc36) hc44 hc54; exact leafN hq e) | (have e := pl_2 (P := P) (pl_c (P := P) (i := i) hc31 hc36) hc44 hc107; exact leafN hq e) | (have e := pl_4 (P := P) (pl_c (P := P) (i := i) hc31 hc36) hc44 hc107; exact leafN hq e)
                     · first
                        | cases hc; done
                        | have hc89 := hc
                          refine EvC.seq ?_
                          refine EvC.reg ?_
                          refine EvOps.step (n := 0) rfl ?_
                          refine EvOps.step (n := 0) rfl ?_
                          refine EvOps.step (n := 0) rfl ?_
                          first | refine EvOps.ldL rfl rfl rfl ?_ | refine EvOps.ldLm rfl rfl rfl (by simp only [List.length_set, S2_len]) ?_ | refine EvOps.ldH rfl rfl (by assumption) ?_
                          refine EvOps.step (n := 0) rfl ?_
                          first | refine EvOps.addI rfl rfl (by omega) ?_ | refine EvOps.step (n := 0) rfl ?_
                          first | refine EvOps.iaJ (i + 1) rfl rfl (by first | rfl | omega) (by omega) ?_
                          first | refine EvOps.ldL rfl rfl rfl ?_ | refine EvOps.ldLm rfl rfl rfl (by simp only [List.length_set, S2_len]) ?_ | refine EvOps.ldH rfl rfl (by assumption) ?_
                          refine EvOps.step (n := 0) rfl ?_
                          refine EvOps.nil ?_
                          simp only [KP, KH, KC, ↓reduceIte, Nat.reduceEqDiff, Nat.reduceAdd]
                          refine EvC.condS rfl (fun hc => ?_) (fun hc => ?_)
                          · first
                             | cases hc; done
                             | have hc107 := hc
                               refine EvC.drw rfl ?_
                               refine EvOps.step (n := 0) rfl ?_
                               refine EvOps.step (n := 0) rfl ?_
                               refine EvOps.step (n := 0) rfl ?_
                               first | refine EvOps.ldL rfl rfl rfl ?_ | refine EvOps.ldLm rfl rfl rfl (by simp only [List.length_set, S2_len]) ?_ | refine EvOps.ldH rfl rfl (by assumption) ?_
                               refine EvOps.step (n := 0) rfl ?_
                               first | refine EvOps.ldnL rfl rfl rfl ?_ | refine EvOps.ldnLm rfl rfl rfl (by simp only [List.length_set, S2_len]) ?_ | refine EvOps.ldnH rfl rfl (by assumption) ?_
                               first | refine EvOps.ldnL rfl rfl rfl ?_ | refine EvOps.ldnLm rfl rfl rfl (by simp only [List.length_set, S2_len]) ?_ | refine EvOps.ldnH rfl rfl (by assumption) ?_
                               refine EvOps.call rfl rfl ?_
                               refine w78 (u := (pA P i)) (v := (eV s P i)) ?_
                               first | refine EvOps.iaN rfl rfl (by omega) ?_
                               refine EvOps.stEH cV (P) ((pA P i).add (eV s P i)) (b := n) (i := i) rfl rfl hP (by first | omega | (simp; omega)) rfl ?_
                               refine EvOps.nil ?_
                               simp only [KP, KH, KC, ↓reduceIte, Nat.reduceEqDiff, Nat.reduceAdd]
                               refine Res.fin rfl ?_
                               first | (exact fix_no hc44 hc89) | (exact fix_no hc89 hc44) | (have e := pl_n (s := s) (pl_c0 (P := P) (i := i) hc31); exact leaf0 hP hq e) | (have e := pl_n (s := s) (pl_c1 (P := P) (i := i) hc36); exact leaf0 hP hq e) | (have e := pl_ff (P := P) hc44 hc54; exact leaf0 hP hq e) | (have e := pl_1 (P := P) (pl_c (P := P) (i := i) hc31 hc36) hc44 hc54; exact leafN hq e) | (have e := pl_2 (P := P) (pl_c (P := P) (i := i) hc31 hc36) hc44 hc107; exact leafN hq e) | (have e := pl_4 (P := P) (pl_c (P := P) (i := i) hc31 hc36) hc44 hc107; exact leafN hq e)
                          · first
                             | cases hc; done
                             | have hc107 := hc
                               refine EvC.seq ?_
                               refine EvC.reg ?_
                               first | refine EvOps.ldnL rfl rfl rfl ?_ | refine EvOps.ldnLm rfl rfl rfl (by simp only [List.length_set, S2_len]) ?_ | refine EvOps.ldnH rfl rfl (by assumption) ?_
                               refine EvOps.call rfl rfl ?_
                               refine w79 (u := (eV s P i)) (k := 1056964608) ?_
                               first | refine EvOps.stL rfl rfl rfl rfl ?_ | refine EvOps.stLm rfl rfl rfl rfl (by simp only [List.length_set, S2_len]) ?_ | refine EvOps.stH rfl rfl rfl (by assumption) ?_
                               refine EvOps.nil ?_
                               simp only [KP, KH, KC, ↓reduceIte, Nat.reduceEqDiff, Nat.reduceAdd]
                               refine EvC.seq ?_
                               refine EvC.drw rfl ?_
                               refine EvOps.step (n := 0) rfl ?_
                               refine EvOps.step (n := 0) rfl ?_
                               refine EvOps.step (n := 0) rfl ?_
                               first | refine EvOps.ldL rfl rfl rfl ?_ | refine EvOps.ldLm rfl rfl rfl (by simp only [List.length_set, S2_len]) ?_ | refine EvOps.ldH rfl rfl (by assumption) ?_
                               refine EvOps.step (n := 0) rfl ?_
                               first | refine EvOps.ldnL rfl rfl rfl ?_ | refine EvOps.ldnLm rfl rfl rfl (by simp only [List.length_set, S2_len]) ?_ | refine EvOps.ldnH rfl rfl (by assumption) ?_
                               first | refine EvOps.ldnL rfl rfl rfl ?_ | refine EvOps.ldnLm rfl rfl rfl (by simp only [List.length_set, S2_len]) ?_ | refine EvOps.ldnH rfl rfl (by assumption) ?_
                               refine EvOps.call rfl rfl ?_
                               refine w78 (u := (pA P i)) (v := (hV s P i)) ?_
                               first | refine EvOps.iaN rfl rfl (by omega) ?_
                               refine EvOps.stEH cV (P) ((pA P i).add (hV s P i)) (b := n) (i := i) rfl rfl hP (by first | omega | (simp; omega)) rfl ?_
                               refine EvOps.nil ?_
                               simp only [KP, KH, KC, ↓reduceIte, Nat.reduceEqDiff, Nat.reduceAdd]
                               refine EvC.drw rfl ?_
                               have hs0' : rd (h.set n ⟨fl cV (P3 s P i), .own⟩) ((⟨bs, 0⟩ : Ref).add 0) = some (oP n true s) := by rw [rd_set (by simpa [Ref.add] using hne)]; exact hs0
                               refine EvOps.step (n := 0) rfl ?_
                               refine EvOps.step (n := 0) rfl ?_
                               refine EvOps.step (n := 0) rfl ?_
                               first | refine EvOps.ldL rfl rfl rfl ?_ | refine EvOps.ldLm rfl rfl rfl (by simp only [List.length_set, S2_len]) ?_ | refine EvOps.ldH rfl rfl (by assumption) ?_
                               refine EvOps.step (n := 0) rfl ?_
                               first | refine EvOps.addI rfl rfl (by omega) ?_ | refine EvOps.step (n := 0) rfl ?_
                               first | refine EvOps.ldnL rfl rfl rfl ?_ | refine EvOps.ldnLm rfl rfl rfl (by simp only [List.length_set, S2_len]) ?_ | refine EvOps.ldnH rfl rfl (by assumption) ?_
                               first | refine EvOps.ldnL rfl rfl rfl ?_ | refine EvOps.ldnLm rfl rfl rfl (by simp only [List.length_set, S2_len]) ?_ | refine EvOps.ldnH rfl rfl (by assumption) ?_
                               refine EvOps.call rfl rfl ?_
                               refine w80 (u := (pB P i)) (v := (hV s P i)) ?_
                               first | refine EvOps.iaJ (i + 1) rfl rfl (by first | rfl | omega) (by omega) ?_
                               refine EvOps.stEH cV (P3 s P i) ((pB P i).sub (hV s P i)) (b := n) (i := i + 1) rfl rfl (List.getElem?_set_self hn0) (by first | omega | (simp; omega)) rfl ?_
                               rw [List.set_set]
                               refine EvOps.nil ?_
                               simp only [KP, KH, KC, ↓reduceIte, Nat.reduceEqDiff, Nat.reduceAdd]
                               refine Res.fin rfl ?_
                               first | (exact fix_no hc44 hc89) | (exact fix_no hc89 hc44) | (have e := pl_n (s := s) (pl_c0 (P := P) (i := i) hc31); exact leaf0 hP hq e) | (have e := pl_n (s := s) (pl_c1 (P := P) (i := i) hc36); exact leaf0 hP hq e) | (have e := pl_ff (P := P) hc44 hc54; exact leaf0 hP hq e) | (have e := pl_1 (P := P) (pl_c (P := P) (i := i) hc31 hc36) hc44 hc54; exact leafN hq e) | (have e := pl_2 (P := P) (pl_c (P := P) (i := i) hc31 hc36) hc44 hc107; exact leafN hq e) | (have e := pl_4 (P := P) (pl_c (P := P) (i := i) hc31 hc36) hc44 hc107; exact leafN hq e)
              | refine EvOps.stepB (n := 0) rfl (fun hc => ?_) (fun hc => ?_)
                · first
                   | cases hc; done
                   | have hc44 := hc
                     refine EvOps.step (n := 0) rfl ?_
                     refine EvOps.step (n := 0) rfl ?_
                     refine EvOps.step (n := 0) rfl ?_
                     first | refine EvOps.ldL rfl rfl rfl ?_ | refine EvOps.ldLm rfl rfl rfl (by simp only [List.length_set, S2_len]) ?_ | refine EvOps.ldH rfl rfl (by assumption) ?_ | refine EvOps.step (n := 0) rfl ?_
                     refine EvOps.step (n := 0) rfl ?_
                     first | refine EvOps.addI rfl rfl (by omega) ?_ | refine EvOps.step (n := 0) rfl ?_
                     first | refine EvOps.iaJ (i + 1) rfl rfl (by first | rfl | omega) (by omega) ?_ | refine EvOps.step (n := 0) rfl ?_
                     first | refine EvOps.ldL rfl rfl rfl ?_ | refine EvOps.ldLm rfl rfl rfl (by simp only [List.length_set, S2_len]) ?_ | refine EvOps.ldH rfl rfl (by assumption) ?_ | refine EvOps.step (n := 0) rfl ?_
                     refine EvOps.step (n := 0) rfl ?_
                     refine EvOps.step (n := 0) rfl ?_
                     refine EvOps.nil ?_
                     simp only [KP, KH, KC, ↓reduceIte, Nat.reduceEqDiff, Nat.reduceAdd]
                     refine EvC.condS rfl (fun hc => ?_) (fun hc => ?_)
                     · first
                        | cases hc; done
                        | have hc54 := hc
                          refine EvC.ret ?_
                          refine Res.finR rfl ?_
                          first | (exact fix_no hc44 hc89) | (exact fix_no hc89 hc44) | (have e := pl_n (s := s) (pl_c0 (P := P) (i := i) hc31); exact leaf0 hP hq e) | (have e := pl_n (s := s) (pl_c1 (P := P) (i := i) hc36); exact leaf0 hP hq e) | (have e := pl_ff (P := P) hc44 hc54; exact leaf0 hP hq e) | (have e := pl_1 (P := P) (pl_c (P := P) (i := i) hc31 hc36) hc44 hc54; exact leafN hq e) | (have e := pl_2 (P := P) (pl_c (P := P) (i := i) hc31 hc36) hc44 hc107; exact leafN hq e) | (have e := pl_4 (P := P) (pl_c (P := P) (i := i) hc31 hc36) hc44 hc107; exact leafN hq e)
                     · first
                        | cases hc; done
                        | have hc54 := hc
                          refine EvC.skip ?_
                          refine EvC.seq ?_
                          refine EvC.drw rfl ?_
                          first | refine EvOps.ldnL rfl rfl rfl ?_ | refine EvOps.ldnLm rfl rfl rfl (by simp only [List.length_set, S2_len]) ?_ | refine EvOps.ldnH rfl rfl (by assumption) ?_
                          refine EvOps.step (n := 0) rfl ?_
                          refine EvOps.step (n := 0) rfl ?_
                          refine EvOps.step (n := 0) rfl ?_
                          refine EvOps.step (n := 0) rfl ?_
                          first | refine EvOps.ldL rfl rfl rfl ?_ | refine EvOps.ldLm rfl rfl rfl (by simp only [List.length_set, S2_len]) ?_ | refine EvOps.ldH rfl rfl (by assumption) ?_
                          refine EvOps.step (n := 0) rfl ?_
                          first | refine EvOps.iaN rfl rfl (by omega) ?_
                          first | refine EvOps.ldL rfl rfl rfl ?_ | refine EvOps.ldLm rfl rfl rfl (by simp only [List.length_set, S2_len]) ?_ | refine EvOps.ldH rfl rfl (by assumption) ?_
                          first | refine EvOps.subI rfl rfl (by omega) ?_ | refine EvOps.step (n := 0) rfl ?_
                          refine EvOps.step (n := 0) rfl ?_
                          refine EvOps.step (n := 0) rfl ?_
                          refine EvOps.call rfl rfl ?_
                          refine w79 (u := (dV P i)) (k := qV s P i) ?_
                          refine EvOps.allocL rfl rfl ?_
                          first | refine EvOps.stL rfl rfl rfl rfl ?_ | refine EvOps.stLm rfl rfl rfl rfl (by simp only [List.length_set, S2_len]) ?_ | refine EvOps.stH rfl rfl rfl (by assumption) ?_
                          refine EvOps.nil ?_
                          simp only [KP, KH, KC, ↓reduceIte, Nat.reduceEqDiff, Nat.reduceAdd]
                          refine EvC.block ?_
                          refine EvC.seq ?_
                          refine EvC.reg ?_
                          refine EvOps.step (n := 0) rfl ?_
                          refine EvOps.step (n := 0) rfl ?_
                          refine EvOps.step (n := 0) rfl ?_
                          first | refine EvOps.ldL rfl rfl rfl ?_ | refine EvOps.ldLm rfl rfl rfl (by simp only [List.length_set, S2_len]) ?_ | refine EvOps.ldH rfl rfl (by assumption) ?_
                          refine EvOps.step (n := 0) rfl ?_
                          first | refine EvOps.iaN rfl rfl (by omega) ?_
                          first | refine EvOps.ldL rfl rfl rfl ?_ | refine EvOps.ldLm rfl rfl rfl (by simp only [List.length_set, S2_len]) ?_ | refine EvOps.ldH rfl rfl (by assumption) ?_
                          refine EvOps.step (n := 0) rfl ?_
                          refine EvOps.nil ?_
                          simp only [KP, KH, KC, ↓reduceIte, Nat.reduceEqDiff, Nat.reduceAdd]
                          refine EvC.condS rfl (fun hc => ?_) (fun hc => ?_)
                          · first
                             | cases hc; done
                             | have hc89 := hc
                               refine EvC.drw rfl ?_
                               refine EvOps.step (n := 0) rfl ?_
                               refine EvOps.step (n := 0) rfl ?_
                               refine EvOps.step (n := 0) rfl ?_
                               first | refine EvOps.ldL rfl rfl rfl ?_ | refine EvOps.ldLm rfl rfl rfl (by simp only [List.length_set, S2_len]) ?_ | refine EvOps.ldH rfl rfl (by assumption) ?_
                               refine EvOps.step (n := 0) rfl ?_
                               first | refine EvOps.addI rfl rfl (by omega) ?_ | refine EvOps.step (n := 0) rfl ?_
                               first | refine EvOps.ldnL rfl rfl rfl ?_ | refine EvOps.ldnLm rfl rfl rfl (by simp only [List.length_set, S2_len]) ?_ | refine EvOps.ldnH rfl rfl (by assumption) ?_
                               first | refine EvOps.ldnL rfl rfl rfl ?_ | refine EvOps.ldnLm rfl rfl rfl (by simp only [List.length_set, S2_len]) ?_ | refine EvOps.ldnH rfl rfl (by assumption) ?_
                               refine EvOps.call rfl rfl ?_
                               refine w80 (u := (pB P i)) (v := (eV s P i)) ?_
                               first | refine EvOps.iaJ (i + 1) rfl rfl (by first | rfl | omega) (by omega) ?_
                               refine EvOps.stEH cV (P) ((pB P i).sub (eV s P i)) (b := n) (i := i + 1) rfl rfl hP (by first | omega | (simp; omega)) rfl ?_
                               refine EvOps.nil ?_
                               simp only [KP, KH, KC, ↓reduceIte, Nat.reduceEqDiff, Nat.reduceAdd]
                               refine Res.fin rfl ?_
                               first | (exact fix_no hc44 hc89) | (exact fix_no hc89 hc44) | (have e := pl_n (s := s) (pl_c0 (P := P) (i := i) hc31); exact leaf0 hP hq e) | (have e := pl_n (s := s) (pl_c1 (P := P) (i := i) hc36); exact leaf0 hP hq e) | (have e := pl_ff (P := P) hc44 hc54; exact leaf0 hP hq e) | (have e := pl_1 (P := P) (pl_c (P := P) (i := i) hc31 hc36) hc44 hc54; exact leafN hq e) | (have e := pl_2 (P := P) (pl_c (P := P) (i := i) hc31 hc36) hc44 hc107; exact leafN hq e) | (have e := pl_4 (P := P) (pl_c (P := P) (i := i) hc31 hc36) hc44 hc107; exact leafN hq e)
                          · first
                             | cases hc; done
                             | have hc89 := hc
                               refine EvC.seq ?_
                               refine EvC.reg ?_
                               refine EvOps.step (n := 0) rfl ?_
                               refine EvOps.step (n := 0) rfl ?_
                               refine EvOps.step (n := 0) rfl ?_
                               first | refine EvOps.ldL rfl rfl rfl ?_ | refine EvOps.ldLm rfl rfl rfl (by simp only [List.length_set, S2_len]) ?_ | refine EvOps.ldH rfl rfl (by assumption) ?_
                               refine EvOps.step (n := 0) rfl ?_
                               first | refine EvOps.addI rfl rfl (by omega) ?_ | refine EvOps.step (n := 0) rfl ?_
                               first | refine EvOps.iaJ (i + 1) rfl rfl (by first | rfl | omega) (by omega) ?_
                               first | refine EvOps.ldL rfl rfl rfl ?_ | refine EvOps.ldLm rfl rfl rfl (by simp only [List.length_set, S2_len]) ?_ | refine EvOps.ldH rfl rfl (by assumption) ?_
                               refine EvOps.step (n := 0) rfl ?_
                               refine EvOps.nil ?_
                               simp only [KP, KH, KC, ↓reduceIte, Nat.reduceEqDiff, Nat.reduceAdd]
                               refine EvC.condS rfl (fun hc => ?_) (fun hc => ?_)
                               · first
                                  | cases hc; done
                                  | have hc107 := hc
                                    refine EvC.drw rfl ?_
                                    refine EvOps.step (n := 0) rfl ?_
                                    refine EvOps.step (n := 0) rfl ?_
                                    refine EvOps.step (n := 0) rfl ?_
                                    first | refine EvOps.ldL rfl rfl rfl ?_ | refine EvOps.ldLm rfl rfl rfl (by simp only [List.length_set, S2_len]) ?_ | refine EvOps.ldH rfl rfl (by assumption) ?_
                                    refine EvOps.step (n := 0) rfl ?_
                                    first | refine EvOps.ldnL rfl rfl rfl ?_ | refine EvOps.ldnLm rfl rfl rfl (by simp only [List.length_set, S2_len]) ?_ | refine EvOps.ldnH rfl rfl (by assumption) ?_
                                    first | refine EvOps.ldnL rfl rfl rfl ?_ | refine EvOps.ldnLm rfl rfl rfl (by simp only [List.length_set, S2_len]) ?_ | refine EvOps.ldnH rfl rfl (by assumption) ?_
                                    refine EvOps.call rfl rfl ?_
                                    refine w78 (u := (pA P i)) (v := (eV s P i)) ?_
                                    first | refine EvOps.iaN rfl rfl (by omega) ?_
                                    refine EvOps.stEH cV (P) ((pA P i).add (eV s P i)) (b := n) (i := i) rfl rfl hP (by first | omega | (simp; omega)) rfl ?_
                                    refine EvOps.nil ?_
                                    simp only [KP, KH, KC, ↓reduceIte, Nat.reduceEqDiff, Nat.reduceAdd]
                                    refine Res.fin rfl ?_
                                    first | (exact fix_no hc44 hc89) | (exact fix_no hc89 hc44) | (have e := pl_n (s := s) (pl_c0 (P := P) (i := i) hc31); exact leaf0 hP hq e) | (have e := pl_n (s := s) (pl_c1 (P := P) (i := i) hc36); exact leaf0 hP hq e) | (have e := pl_ff (P := P) hc44 hc54; exact leaf0 hP hq e) | (have e := pl_1 (P := P) (pl_c (P := P) (i := i) hc31 hc36) hc44 hc54; exact leafN hq e) | (have e := pl_2 (P := P) (pl_c (P := P) (i := i) hc31 hc36) hc44 hc107; exact leafN hq e) | (have e := pl_4 (P := P) (pl_c (P := P) (i := i) hc31 hc36) hc44 hc107; exact leafN hq e)
                               · first
                                  | cases hc; done
                                  | have hc107 := hc
                                    refine EvC.seq ?_
                                    refine EvC.reg ?_
                                    first | refine EvOps.ldnL rfl rfl rfl ?_ | refine EvOps.ldnLm rfl rfl rfl (by simp only [List.length_set, S2_len]) ?_ | refine EvOps.ldnH rfl rfl (by assumption) ?_
                                    refine EvOps.call rfl rfl ?_
                                    refine w79 (u := (eV s P i)) (k := 1056964608) ?_
                                    first | refine EvOps.stL rfl rfl rfl rfl ?_ | refine EvOps.stLm rfl rfl rfl rfl (by simp only [List.length_set, S2_len]) ?_ | refine EvOps.stH rfl rfl rfl (by assumption) ?_
                                    refine EvOps.nil ?_
                                    simp only [KP, KH, KC, ↓reduceIte, Nat.reduceEqDiff, Nat.reduceAdd]
                                    refine EvC.seq ?_
                                    refine EvC.drw rfl ?_
                                    refine EvOps.step (n := 0) rfl ?_
                                    refine EvOps.step (n := 0) rfl ?_
                                    refine EvOps.step (n := 0) rfl ?_
                                    first | refine EvOps.ldL rfl rfl rfl ?_ | refine EvOps.ldLm rfl rfl rfl (by simp only [List.length_set, S2_len]) ?_ | refine EvOps.ldH rfl rfl (by assumption) ?_
                                    refine EvOps.step (n := 0) rfl ?_
                                    first | refine EvOps.ldnL rfl rfl rfl ?_ | refine EvOps.ldnLm rfl rfl rfl (by simp only [List.length_set, S2_len]) ?_ | refine EvOps.ldnH rfl rfl (by assumption) ?_
                                    first | refine EvOps.ldnL rfl rfl rfl ?_ | refine EvOps.ldnLm rfl rfl rfl (by simp only [List.length_set, S2_len]) ?_ | refine EvOps.ldnH rfl rfl (by assumption) ?_
                                    refine EvOps.call rfl rfl ?_
                                    refine w78 (u := (pA P i)) (v := (hV s P i)) ?_
                                    first | refine EvOps.iaN rfl rfl (by omega) ?_
                                    refine EvOps.stEH cV (P) ((pA P i).add (hV s P i)) (b := n) (i := i) rfl rfl hP (by first | omega | (simp; omega)) rfl ?_
                                    refine EvOps.nil ?_
                                    simp only [KP, KH, KC, ↓reduceIte, Nat.reduceEqDiff, Nat.reduceAdd]
                                    refine EvC.drw rfl ?_
                                    have hs0' : rd (h.set n ⟨fl cV (P3 s P i), .own⟩) ((⟨bs, 0⟩ : Ref).add 0) = some (oP n true s) := by rw [rd_set (by simpa [Ref.add] using hne)]; exact hs0
                                    refine EvOps.step (n := 0) rfl ?_
                                    refine EvOps.step (n := 0) rfl ?_
                                    refine EvOps.step (n := 0) rfl ?_
                                    first | refine EvOps.ldL rfl rfl rfl ?_ | refine EvOps.ldLm rfl rfl rfl (by simp only [List.length_set, S2_len]) ?_ | refine EvOps.ldH rfl rfl (by assumption) ?_
                                    refine EvOps.step (n := 0) rfl ?_
                                    first | refine EvOps.addI rfl rfl (by omega) ?_ | refine EvOps.step (n := 0) rfl ?_
                                    first | refine EvOps.ldnL rfl rfl rfl ?_ | refine EvOps.ldnLm rfl rfl rfl (by simp only [List.length_set, S2_len]) ?_ | refine EvOps.ldnH rfl rfl (by assumption) ?_
                                    first | refine EvOps.ldnL rfl rfl rfl ?_ | refine EvOps.ldnLm rfl rfl rfl (by simp only [List.length_set, S2_len]) ?_ | refine EvOps.ldnH rfl rfl (by assumption) ?_
                                    refine EvOps.call rfl rfl ?_
                                    refine w80 (u := (pB P i)) (v := (hV s P i)) ?_
                                    first | refine EvOps.iaJ (i + 1) rfl rfl (by first | rfl | omega) (by omega) ?_
                                    refine EvOps.stEH cV (P3 s P i) ((pB P i).sub (hV s P i)) (b := n) (i := i + 1) rfl rfl (List.getElem?_set_self hn0) (by first | omega | (simp; omega)) rfl ?_
                                    rw [List.set_set]
                                    refine EvOps.nil ?_
                                    simp only [KP, KH, KC, ↓reduceIte, Nat.reduceEqDiff, Nat.reduceAdd]
                                    refine Res.fin rfl ?_
                                    first | (exact fix_no hc44 hc89) | (exact fix_no hc89 hc44) | (have e := pl_n (s := s) (pl_c0 (P := P) (i := i) hc31); exact leaf0 hP hq e) | (have e := pl_n (s := s) (pl_c1 (P := P) (i := i) hc36); exact leaf0 hP hq e) | (have e := pl_ff (P := P) hc44 hc54; exact leaf0 hP hq e) | (have e := pl_1 (P := P) (pl_c (P := P) (i := i) hc31 hc36) hc44 hc54; exact leafN hq e) | (have e := pl_2 (P := P) (pl_c (P := P) (i := i) hc31 hc36) hc44 hc107; exact leafN hq e) | (have e := pl_4 (P := P) (pl_c (P := P) (i := i) hc31 hc36) hc44 hc107; exact leafN hq e)
                · first
                   | cases hc; done
                   | have hc44 := hc
                     refine EvOps.step (n := 0) rfl ?_
                     refine EvOps.step (n := 0) rfl ?_
                     refine EvOps.step (n := 0) rfl ?_
                     first | refine EvOps.ldL rfl rfl rfl ?_ | refine EvOps.ldLm rfl rfl rfl (by simp only [List.length_set, S2_len]) ?_ | refine EvOps.ldH rfl rfl (by assumption) ?_ | refine EvOps.step (n := 0) rfl ?_
                     refine EvOps.step (n := 0) rfl ?_
                     first | refine EvOps.addI rfl rfl (by omega) ?_ | refine EvOps.step (n := 0) rfl ?_
                     first | refine EvOps.iaJ (i + 1) rfl rfl (by first | rfl | omega) (by omega) ?_ | refine EvOps.step (n := 0) rfl ?_
                     first | refine EvOps.ldL rfl rfl rfl ?_ | refine EvOps.ldLm rfl rfl rfl (by simp only [List.length_set, S2_len]) ?_ | refine EvOps.ldH rfl rfl (by assumption) ?_ | refine EvOps.step (n := 0) rfl ?_
                     refine EvOps.step (n := 0) rfl ?_
                     refine EvOps.step (n := 0) rfl ?_
                     refine EvOps.nil ?_
                     simp only [KP, KH, KC, ↓reduceIte, Nat.reduceEqDiff, Nat.reduceAdd]
                     refine EvC.condN rfl ?_
                     refine EvC.skip ?_
                     refine EvC.seq ?_
                     refine EvC.drw rfl ?_
                     first | refine EvOps.ldnL rfl rfl rfl ?_ | refine EvOps.ldnLm rfl rfl rfl (by simp only [List.length_set, S2_len]) ?_ | refine EvOps.ldnH rfl rfl (by assumption) ?_
                     refine EvOps.step (n := 0) rfl ?_
                     refine EvOps.step (n := 0) rfl ?_
                     refine EvOps.step (n := 0) rfl ?_
                     refine EvOps.step (n := 0) rfl ?_
                     first | refine EvOps.ldL rfl rfl rfl ?_ | refine EvOps.ldLm rfl rfl rfl (by simp only [List.length_set, S2_len]) ?_ | refine EvOps.ldH rfl rfl (by assumption) ?_
                     refine EvOps.step (n := 0) rfl ?_
                     first | refine EvOps.iaN rfl rfl (by omega) ?_
                     first | refine EvOps.ldL rfl rfl rfl ?_ | refine EvOps.ldLm rfl rfl rfl (by simp only [List.length_set, S2_len]) ?_ | refine EvOps.ldH rfl rfl (by assumption) ?_
                     first | refine EvOps.subI rfl rfl (by omega) ?_ | refine EvOps.step (n := 0) rfl ?_
                     refine EvOps.step (n := 0) rfl ?_
                     refine EvOps.step (n := 0) rfl ?_
                     refine EvOps.call rfl rfl ?_
                     refine w79 (u := (dV P i)) (k := qV s P i) ?_
                     refine EvOps.allocL rfl rfl ?_
                     first | refine EvOps.stL rfl rfl rfl rfl ?_ | refine EvOps.stLm rfl rfl rfl rfl (by simp only [List.length_set, S2_len]) ?_ | refine EvOps.stH rfl rfl rfl (by assumption) ?_
                     refine EvOps.nil ?_
                     simp only [KP, KH, KC, ↓reduceIte, Nat.reduceEqDiff, Nat.reduceAdd]
                     refine EvC.block ?_
                     refine EvC.seq ?_
                     refine EvC.reg ?_
                     refine EvOps.step (n := 0) rfl ?_
                     refine EvOps.step (n := 0) rfl ?_
                     refine EvOps.step (n := 0) rfl ?_
                     first | refine EvOps.ldL rfl rfl rfl ?_ | refine EvOps.ldLm rfl rfl rfl (by simp only [List.length_set, S2_len]) ?_ | refine EvOps.ldH rfl rfl (by assumption) ?_
                     refine EvOps.step (n := 0) rfl ?_
                     first | refine EvOps.iaN rfl rfl (by omega) ?_
                     first | refine EvOps.ldL rfl rfl rfl ?_ | refine EvOps.ldLm rfl rfl rfl (by simp only [List.length_set, S2_len]) ?_ | refine EvOps.ldH rfl rfl (by assumption) ?_
                     refine EvOps.step (n := 0) rfl ?_
                     refine EvOps.nil ?_
                     simp only [KP, KH, KC, ↓reduceIte, Nat.reduceEqDiff, Nat.reduceAdd]
                     refine EvC.condS rfl (fun hc => ?_) (fun hc => ?_)
                     · first
                        | cases hc; done
                        | have hc89 := hc
                          refine EvC.drw rfl ?_
                          refine EvOps.step (n := 0) rfl ?_
                          refine EvOps.step (n := 0) rfl ?_
                          refine EvOps.step (n := 0) rfl ?_
                          first | refine EvOps.ldL rfl rfl rfl ?_ | refine EvOps.ldLm rfl rfl rfl (by simp only [List.length_set, S2_len]) ?_ | refine EvOps.ldH rfl rfl (by assumption) ?_
                          refine EvOps.step (n := 0) rfl ?_
                          first | refine EvOps.addI rfl rfl (by omega) ?_ | refine EvOps.step (n := 0) rfl ?_
                          first | refine EvOps.ldnL rfl rfl rfl ?_ | refine EvOps.ldnLm rfl rfl rfl (by simp only [List.length_set, S2_len]) ?_ | refine EvOps.ldnH rfl rfl (by assumption) ?_
                          first | refine EvOps.ldnL rfl rfl rfl ?_ | refine EvOps.ldnLm rfl rfl rfl (by simp only [List.length_set, S2_len]) ?_ | refine EvOps.ldnH rfl rfl (by assumption) ?_
                          refine EvOps.call rfl rfl ?_
                          refine w80 (u := (pB P i)) (v := (eV s P i)) ?_
                          first | refine EvOps.iaJ (i + 1) rfl rfl (by first | rfl | omega) (by omega) ?_
                          refine EvOps.stEH cV (P) ((pB P i).sub (eV s P i)) (b := n) (i := i + 1) rfl rfl hP (by first | omega | (simp; omega)) rfl ?_
                          refine EvOps.nil ?_
                          simp only [KP, KH, KC, ↓reduceIte, Nat.reduceEqDiff, Nat.reduceAdd]
                          refine Res.fin rfl ?_
                          first | (exact fix_no hc44 hc89) | (exact fix_no hc89 hc44) | (have e := pl_n (s := s) (pl_c0 (P := P) (i := i) hc31); exact leaf0 hP hq e) | (have e := pl_n (s := s) (pl_c1 (P := P) (i := i) hc36); exact leaf0 hP hq e) | (have e := pl_ff (P := P) hc44 hc54; exact leaf0 hP hq e) | (have e := pl_1 (P := P) (pl_c (P := P) (i := i) hc31 hc36) hc44 hc54; exact leafN hq e) | (have e := pl_2 (P := P) (pl_c (P := P) (i := i) hc31 hc36) hc44 hc107; exact leafN hq e) | (have e := pl_4 (P := P) (pl_c (P := P) (i := i) hc31 hc36) hc44 hc107; exact leafN hq e)
                     · first
                        | cases hc; done
                        | have hc89 := hc
                          refine EvC.seq ?_
                          refine EvC.reg ?_
                          refine EvOps.step (n := 0) rfl ?_
                          refine EvOps.step (n := 0) rfl ?_
                          refine EvOps.step (n := 0) rfl ?_
                          first | refine EvOps.ldL rfl rfl rfl ?_ | refine EvOps.ldLm rfl rfl rfl (by simp only [List.length_set, S2_len]) ?_ | refine EvOps.ldH rfl rfl (by assumption) ?_
                          refine EvOps.step (n := 0) rfl ?_
                          first | refine EvOps.addI rfl rfl (by omega) ?_ | refine EvOps.step (n := 0) rfl ?_
                          first | refine EvOps.iaJ (i + 1) rfl rfl (by first | rfl | omega) (by omega) ?_
                          first | refine EvOps.ldL rfl rfl rfl ?_ | refine EvOps.ldLm rfl rfl rfl (by simp only [List.length_set, S2_len]) ?_ | refine EvOps.ldH rfl rfl (by assumption) ?_
                          refine EvOps.step (n := 0) rfl ?_
                          refine EvOps.nil ?_
                          simp only [KP, KH, KC, ↓reduceIte, Nat.reduceEqDiff, Nat.reduceAdd]
                          refine EvC.condS rfl (fun hc => ?_) (fun hc => ?_)
                          · first
                             | cases hc; done
                             | have hc107 := hc
                               refine EvC.drw rfl ?_
                               refine EvOps.step (n := 0) rfl ?_
                               refine EvOps.step (n := 0) rfl ?_
                               refine EvOps.step (n := 0) rfl ?_
                               first | refine EvOps.ldL rfl rfl rfl ?_ | refine EvOps.ldLm rfl rfl rfl (by simp only [List.length_set, S2_len]) ?_ | refine EvOps.ldH rfl rfl (by assumption) ?_
                               refine EvOps.step (n := 0) rfl ?_
                               first | refine EvOps.ldnL rfl rfl rfl ?_ | refine EvOps.ldnLm rfl rfl rfl (by simp only [List.length_set, S2_len]) ?_ | refine EvOps.ldnH rfl rfl (by assumption) ?_
                               first | refine EvOps.ldnL rfl rfl rfl ?_ | refine EvOps.ldnLm rfl rfl rfl (by simp only [List.length_set, S2_len]) ?_ | refine EvOps.ldnH rfl rfl (by assumption) ?_
                               refine EvOps.call rfl rfl ?_
                               refine w78 (u := (pA P i)) (v := (eV s P i)) ?_
                               first | refine EvOps.iaN rfl rfl (by omega) ?_
                               refine EvOps.stEH cV (P) ((pA P i).add (eV s P i)) (b := n) (i := i) rfl rfl hP (by first | omega | (simp; omega)) rfl ?_
                               refine EvOps.nil ?_
                               simp only [KP, KH, KC, ↓reduceIte, Nat.reduceEqDiff, Nat.reduceAdd]
                               refine Res.fin rfl ?_
                               first | (exact fix_no hc44 hc89) | (exact fix_no hc89 hc44) | (have e := pl_n (s := s) (pl_c0 (P := P) (i := i) hc31); exact leaf0 hP hq e) | (have e := pl_n (s := s) (pl_c1 (P := P) (i := i) hc36); exact leaf0 hP hq e) | (have e := pl_ff (P := P) hc44 hc54; exact leaf0 hP hq e) | (have e := pl_1 (P := P) (pl_c (P := P) (i := i) hc31 hc36) hc44 hc54; exact leafN hq e) | (have e := pl_2 (P := P) (pl_c (P := P) (i := i) hc31 hc36) hc44 hc107; exact leafN hq e) | (have e := pl_4 (P := P) (pl_c (P := P) (i := i) hc31 hc36) hc44 hc107; exact leafN hq e)
                          · first
                             | cases hc; done
                             | have hc107 := hc
                               refine EvC.seq ?_
                               refine EvC.reg ?_
                               first | refine EvOps.ldnL rfl rfl rfl ?_ | refine EvOps.ldnLm rfl rfl rfl (by simp only [List.length_set, S2_len]) ?_ | refine EvOps.ldnH rfl rfl (by assumption) ?_
                               refine EvOps.call rfl rfl ?_
                               refine w79 (u := (eV s P i)) (k := 1056964608) ?_
                               first | refine EvOps.stL rfl rfl rfl rfl ?_ | refine EvOps.stLm rfl rfl rfl rfl (by simp only [List.length_set, S2_len]) ?_ | refine EvOps.stH rfl rfl rfl (by assumption) ?_
                               refine EvOps.nil ?_
                               simp only [KP, KH, KC, ↓reduceIte, Nat.reduceEqDiff, Nat.reduceAdd]
                               refine EvC.seq ?_
                               refine EvC.drw rfl ?_
                               refine EvOps.step (n := 0) rfl ?_
                               refine EvOps.step (n := 0) rfl ?_
                               refine EvOps.step (n := 0) rfl ?_
                               first | refine EvOps.ldL rfl rfl rfl ?_ | refine EvOps.ldLm rfl rfl rfl (by simp only [List.length_set, S2_len]) ?_ | refine EvOps.ldH rfl rfl (by assumption) ?_
                               refine EvOps.step (n := 0) rfl ?_
                               first | refine EvOps.ldnL rfl rfl rfl ?_ | refine EvOps.ldnLm rfl rfl rfl (by simp only [List.length_set, S2_len]) ?_ | refine EvOps.ldnH rfl rfl (by assumption) ?_
                               first | refine EvOps.ldnL rfl rfl rfl ?_ | refine EvOps.ldnLm rfl rfl rfl (by simp only [List.length_set, S2_len]) ?_ | refine EvOps.ldnH rfl rfl (by assumption) ?_
                               refine EvOps.call rfl rfl ?_
                               refine w78 (u := (pA P i)) (v := (hV s P i)) ?_
                               first | refine EvOps.iaN rfl rfl (by omega) ?_
                               refine EvOps.stEH cV (P) ((pA P i).add (hV s P i)) (b := n) (i := i) rfl rfl hP (by first | omega | (simp; omega)) rfl ?_
                               refine EvOps.nil ?_
                               simp only [KP, KH, KC, ↓reduceIte, Nat.reduceEqDiff, Nat.reduceAdd]
                               refine EvC.drw rfl ?_
                               have hs0' : rd (h.set n ⟨fl cV (P3 s P i), .own⟩) ((⟨bs, 0⟩ : Ref).add 0) = some (oP n true s) := by rw [rd_set (by simpa [Ref.add] using hne)]; exact hs0
                               refine EvOps.step (n := 0) rfl ?_
                               refine EvOps.step (n := 0) rfl ?_
                               refine EvOps.step (n := 0) rfl ?_
                               first | refine EvOps.ldL rfl rfl rfl ?_ | refine EvOps.ldLm rfl rfl rfl (by simp only [List.length_set, S2_len]) ?_ | refine EvOps.ldH rfl rfl (by assumption) ?_
                               refine EvOps.step (n := 0) rfl ?_
                               first | refine EvOps.addI rfl rfl (by omega) ?_ | refine EvOps.step (n := 0) rfl ?_
                               first | refine EvOps.ldnL rfl rfl rfl ?_ | refine EvOps.ldnLm rfl rfl rfl (by simp only [List.length_set, S2_len]) ?_ | refine EvOps.ldnH rfl rfl (by assumption) ?_
                               first | refine EvOps.ldnL rfl rfl rfl ?_ | refine EvOps.ldnLm rfl rfl rfl (by simp only [List.length_set, S2_len]) ?_ | refine EvOps.ldnH rfl rfl (by assumption) ?_
                               refine EvOps.call rfl rfl ?_
                               refine w80 (u := (pB P i)) (v := (hV s P i)) ?_
                               first | refine EvOps.iaJ (i + 1) rfl rfl (by first | rfl | omega) (by omega) ?_
                               refine EvOps.stEH cV (P3 s P i) ((pB P i).sub (hV s P i)) (b := n) (i := i + 1) rfl rfl (List.getElem?_set_self hn0) (by first | omega | (simp; omega)) rfl ?_
                               rw [List.set_set]
                               refine EvOps.nil ?_
                               simp only [KP, KH, KC, ↓reduceIte, Nat.reduceEqDiff, Nat.reduceAdd]
                               refine Res.fin rfl ?_
                               first | (exact fix_no hc44 hc89) | (exact fix_no hc89 hc44) | (have e := pl_n (s := s) (pl_c0 (P := P) (i := i) hc31); exact leaf0 hP hq e) | (have e := pl_n (s := s) (pl_c1 (P := P) (i := i) hc36); exact leaf0 hP hq e) | (have e := pl_ff (P := P) hc44 hc54; exact leaf0 hP hq e) | (have e := pl_1 (P := P) (pl_c (P := P) (i := i) hc31 hc36) hc44 hc54; exact leafN hq e) | (have e := pl_2 (P := P) (pl_c (P := P) (i := i) hc31 hc36) hc44 hc107; exact leafN hq e) | (have e := pl_4 (P := P) (pl_c (P := P) (i := i) hc31 hc36) hc44 hc107; exact leafN hq e)
end
end Go.V.Try
