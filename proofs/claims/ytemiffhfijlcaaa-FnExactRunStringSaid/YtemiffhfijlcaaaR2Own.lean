import Derived.Test.YtemiffhfijlcaaaR2Val
import Derived.Test.YtemiffhfijlcaaaR2Pull
set_option linter.unusedSimpArgs false
set_option linter.unusedVariables false
set_option linter.unusedSectionVars false
/-! A string of its own; a step of it (the other side). -/
namespace Go.V.Try
open Go Go.V
section
variable {h : H} {Q : AV → H → Prop}
/-- spec.l08Own -/
theorem w61 {bs : Nat} {md : Md} {p b f l : AV} {s : Str} (hb : h[bs]? = some ⟨[p, b, f, l, f32 s.fall.x, f32 s.fall.y, f32 s.fall.z, f32 s.damp, i64 s.passes], md⟩) (hd : md ≠ .dead) (a : StrV h p b f l s) (ok : s.Ok) (hq : Q (strOut h.length true s) (h ++ strBlk s)) : W Φ 61 [.p (some ⟨bs, 0⟩)] h Q := by
  obtain ⟨oa, ob, oc, od, oe, of, og⟩ := ok
  have n1 : s.pts ≠ [] := by intro e; rw [e] at oa; simp at oa
  have n2 : s.bef ≠ [] := by intro e; rw [e] at oc; simp at oc; omega
  have n3 : s.fixed ≠ [] := by intro e; rw [e] at od; simp at od; omega
  have n4 : s.lens ≠ [] := by intro e; rw [e] at oe; simp at oe; omega
  obtain ⟨a1, a2, a3, a4⟩ := a
  have t := a1
  obtain ⟨_, _, _, rfl, _⟩ := t
  have t := a2
  obtain ⟨_, _, _, rfl, _⟩ := t
  have t := a3
  obtain ⟨_, _, _, rfl, _⟩ := t
  have t := a4
  obtain ⟨_, _, _, rfl, _⟩ := t
  have r0 : rd h ((⟨bs, 0⟩ : Ref).add 0) = some _ := rd_block hb hd rfl
  have r1 : rd h ((⟨bs, 0⟩ : Ref).add 1) = some _ := rd_block hb hd rfl
  have r2 : rd h ((⟨bs, 0⟩ : Ref).add 2) = some _ := rd_block hb hd rfl
  have r3 : rd h ((⟨bs, 0⟩ : Ref).add 3) = some _ := rd_block hb hd rfl
  have rn := rdn_block (o := 0) (n := 9) hb hd (by simp)
  refine W.freshL (F := F61) rfl ?_
  refine EvC.seq ?_
  refine EvC.reg ?_
  refine EvOps.allocL rfl rfl ?_
  refine EvOps.nil ?_
  simp only [KP, KH, KC, ↓reduceIte, Nat.reduceEqDiff, Nat.reduceAdd]
  refine EvC.seq ?_
  refine EvC.reg ?_
  refine EvOps.step (n := 0) rfl ?_
  refine EvOps.step (n := 0) rfl ?_
  first | refine EvOps.ldnL rfl rfl rfl ?_ | refine EvOps.ldnLm rfl rfl rfl (by simp only [List.length_set, S2_len]) ?_ | refine EvOps.ldnH rfl rfl (by assumption) ?_
  refine EvOps.allocL rfl rfl ?_
  first | refine EvOps.stL rfl rfl rfl rfl ?_ | refine EvOps.stLm rfl rfl rfl rfl (by simp only [List.length_set, S2_len]) ?_ | refine EvOps.stH rfl rfl rfl (by assumption) ?_
  refine EvOps.nil ?_
  simp only [KP, KH, KC, ↓reduceIte, Nat.reduceEqDiff, Nat.reduceAdd]
  refine EvC.seq ?_
  refine EvC.reg ?_
  refine EvOps.bsG [] rfl rfl rfl rfl rfl ?_
  refine EvOps.step (n := 0) rfl ?_
  refine EvOps.step (n := 0) rfl ?_
  refine EvOps.step (n := 0) rfl ?_
  first | refine EvOps.ldL rfl rfl rfl ?_ | refine EvOps.ldLm rfl rfl rfl (by simp only [List.length_set, S2_len]) ?_ | refine EvOps.ldH rfl rfl (by assumption) ?_
  refine EvOps.appE cV rfl rfl (Vw.app _ a1).src n1 (by rw [rdn_new]; rfl) (by omega) rfl ?_
  refine EvOps.step (n := 0) rfl ?_
  first | refine EvOps.stL rfl rfl rfl rfl ?_ | refine EvOps.stLm rfl rfl rfl rfl (by simp only [List.length_set, S2_len]) ?_ | refine EvOps.stH rfl rfl rfl (by assumption) ?_
  refine EvOps.nil ?_
  simp only [KP, KH, KC, ↓reduceIte, Nat.reduceEqDiff, Nat.reduceAdd]
  refine EvC.seq ?_
  refine EvC.reg ?_
  refine EvOps.bsG [] rfl rfl rfl rfl rfl ?_
  refine EvOps.step (n := 0) rfl ?_
  refine EvOps.step (n := 0) rfl ?_
  refine EvOps.step (n := 0) rfl ?_
  first | refine EvOps.ldL rfl rfl rfl ?_ | refine EvOps.ldLm rfl rfl rfl (by simp only [List.length_set, S2_len]) ?_ | refine EvOps.ldH rfl rfl (by assumption) ?_
  refine EvOps.appE cV rfl rfl (Vw.app _ a2).src n2 (by rw [rdn_new]; rfl) (by omega) rfl ?_
  refine EvOps.step (n := 0) rfl ?_
  first | refine EvOps.stL rfl rfl rfl rfl ?_ | refine EvOps.stLm rfl rfl rfl rfl (by simp only [List.length_set, S2_len]) ?_ | refine EvOps.stH rfl rfl rfl (by assumption) ?_
  refine EvOps.nil ?_
  simp only [KP, KH, KC, ↓reduceIte, Nat.reduceEqDiff, Nat.reduceAdd]
  refine EvC.seq ?_
  refine EvC.reg ?_
  refine EvOps.bsG [] rfl rfl rfl rfl rfl ?_
  refine EvOps.step (n := 0) rfl ?_
  refine EvOps.step (n := 0) rfl ?_
  refine EvOps.step (n := 0) rfl ?_
  first | refine EvOps.ldL rfl rfl rfl ?_ | refine EvOps.ldLm rfl rfl rfl (by simp only [List.length_set, S2_len]) ?_ | refine EvOps.ldH rfl rfl (by assumption) ?_
  refine EvOps.appE cB rfl rfl (Vw.app _ a3).src n3 (by rw [rdn_new]; rfl) (by omega) rfl ?_
  refine EvOps.step (n := 0) rfl ?_
  first | refine EvOps.stL rfl rfl rfl rfl ?_ | refine EvOps.stLm rfl rfl rfl rfl (by simp only [List.length_set, S2_len]) ?_ | refine EvOps.stH rfl rfl rfl (by assumption) ?_
  refine EvOps.nil ?_
  simp only [KP, KH, KC, ↓reduceIte, Nat.reduceEqDiff, Nat.reduceAdd]
  refine EvC.seq ?_
  refine EvC.reg ?_
  refine EvOps.bsG [] rfl rfl rfl rfl rfl ?_
  refine EvOps.step (n := 0) rfl ?_
  refine EvOps.step (n := 0) rfl ?_
  refine EvOps.step (n := 0) rfl ?_
  first | refine EvOps.ldL rfl rfl rfl ?_ | refine EvOps.ldLm rfl rfl rfl (by simp only [List.length_set, S2_len]) ?_ | refine EvOps.ldH rfl rfl (by assumption) ?_
  refine EvOps.appE cF rfl rfl (Vw.app _ a4).src n4 (by rw [rdn_new]; rfl) (by omega) rfl ?_
  refine EvOps.step (n := 0) rfl ?_
  first | refine EvOps.stL rfl rfl rfl rfl ?_ | refine EvOps.stLm rfl rfl rfl rfl (by simp only [List.length_set, S2_len]) ?_ | refine EvOps.stH rfl rfl rfl (by assumption) ?_
  refine EvOps.nil ?_
  simp only [KP, KH, KC, ↓reduceIte, Nat.reduceEqDiff, Nat.reduceAdd]
  refine EvC.seq ?_
  refine EvC.reg ?_
  first | refine EvOps.ldnL rfl rfl rfl ?_ | refine EvOps.ldnLm rfl rfl rfl (by simp only [List.length_set, S2_len]) ?_ | refine EvOps.ldnH rfl rfl (by assumption) ?_
  first | refine EvOps.stL rfl rfl rfl rfl ?_ | refine EvOps.stLm rfl rfl rfl rfl (by simp only [List.length_set, S2_len]) ?_ | refine EvOps.stH rfl rfl rfl (by assumption) ?_
  refine EvOps.nil ?_
  simp only [KP, KH, KC, ↓reduceIte, Nat.reduceEqDiff, Nat.reduceAdd]
  refine EvC.ret ?_
  refine Res.finR (show resVals _ _ [.cells 2 9] = _ from by simp only [resVals, ARes.val, Env.get, rdn_new, rd_new, ↓reduceIte, Nat.reduceEqDiff]; rfl) ?_
  refine ⟨List.prefix_append _ _, Neat.new [(3, fl cV s.pts), (5, fl cV s.bef), (7, fl cB s.fixed), (9, fl cF s.lens)] (Chg.refl h) (by simp [AV.refs, refsL, pack, if_new]) (by simp) (by simp [fl_lim]) ?_⟩
  simp [AV.ren, renL, reno_new, reno_new0, pack, List.idxOf_cons, grOf, beq_add1, beq_add2, beq_add3]
  exact hq
/-- spec.l08Move -/
theorem w44 {bs : Nat} {md : Md} {p b f l : AV} {s : Str} (hb : h[bs]? = some ⟨[p, b, f, l, f32 s.fall.x, f32 s.fall.y, f32 s.fall.z, f32 s.damp, i64 s.passes], md⟩) (hd : md ≠ .dead) (a : StrV h p b f l s) (ok : s.Ok) (hq : Q (strOut h.length true s.step) (h ++ strBlk s.step)) : W Φ 44 [.p (some ⟨bs, 0⟩)] h Q := by
  have ok0 := ok
  obtain ⟨oa, ob, oc, od, oe, of, og⟩ := ok
  refine W.freshL (F := F44) rfl ?_
  refine EvC.seq ?_
  refine EvC.reg ?_
  refine EvOps.allocL rfl rfl ?_
  refine EvOps.nil ?_
  simp only [KP, KH, KC, ↓reduceIte, Nat.reduceEqDiff, Nat.reduceAdd]
  refine EvC.seq ?_
  refine EvC.reg ?_
  refine EvOps.step (n := 0) rfl ?_
  refine EvOps.call rfl rfl ?_
  refine w61 (get_old hb) hd (StrV.app _ a) ok0 ?_
  simp only [List.append_assoc, List.cons_append, List.nil_append, List.length_append, List.length_cons, List.length_nil, Nat.zero_add, Nat.reduceAdd]
  refine EvOps.allocL rfl rfl ?_
  first | refine EvOps.stL rfl rfl rfl rfl ?_ | refine EvOps.stLm rfl rfl rfl rfl (by simp only [List.length_set, S2_len]) ?_ | refine EvOps.stH rfl rfl rfl (by assumption) ?_
  refine EvOps.nil ?_
  simp only [KP, KH, KC, ↓reduceIte, Nat.reduceEqDiff, Nat.reduceAdd]
  refine EvC.seq ?_
  refine EvC.seq ?_
  refine EvC.reg ?_
  refine EvOps.step (n := 0) rfl ?_
  refine EvOps.nil ?_
  simp only [KP, KH, KC, ↓reduceIte, Nat.reduceEqDiff, Nat.reduceAdd]
  refine EvC.block ?_
  refine EvC.gen (P := fun HB => HB = h ++ [⟨zeroCells, .own⟩, ⟨fl cV s.pts, .own⟩, ⟨fl cV s.bef, .own⟩, ⟨fl cB s.fixed, .own⟩, ⟨fl cF s.lens, .own⟩, ⟨strCells (h.length + 1) true s, .own⟩]) rfl (fun HB hHB => ?_)
  have hs : HB[(h.length + 5)]? = some ⟨strCells (h.length + 1) true s, .own⟩ := by rw [hHB, get_new]; rfl
  have A : StrAt HB (h.length + 1) s := by rw [hHB]; exact ⟨by rw [get_new]; rfl, by rw [Nat.add_assoc, get_new]; rfl, by rw [Nat.add_assoc, get_new]; rfl, by rw [Nat.add_assoc, get_new]; rfl⟩
  have hn0 := at_lt A.pts
  have hn1 := at_lt A.bef
  refine EvC.loop (fun c e hh => ∃ (i : Nat) (l : H), c = s.pts.length - i ∧ i ≤ s.pts.length ∧ hh = S2 HB (h.length + 1) ⟨fl cV (mv1 s i).1, .own⟩ ⟨fl cV (mv1 s i).2, .own⟩ ++ l ∧ e = [(2, .p (some ⟨h.length + 0, 0⟩)), (3, .p (some ⟨h.length + 5, 0⟩)), (4, i64 i)]) (k := s.pts.length) ⟨0, [], by simp, by simp, by rw [show mv1 s 0 = (s.pts, s.bef) from rfl, S2_self A.pts A.bef, List.append_nil], rfl⟩ ?_
  rintro c e hh ⟨i, l, rfl, hi, rfl, rfl⟩
  have f0 : rd (S2 HB (h.length + 1) ⟨fl cV (mv1 s i).1, .own⟩ ⟨fl cV (mv1 s i).2, .own⟩) ((⟨h.length + 5, 0⟩ : Ref).add 0) = some (oP (h.length + 1) true s) := by
    have hsL : (S2 HB (h.length + 1) ⟨fl cV (mv1 s i).1, .own⟩ ⟨fl cV (mv1 s i).2, .own⟩)[(h.length + 5)]? = some ⟨strCells (h.length + 1) true s, .own⟩ := by rw [S2_ne (by omega) (by omega)]; exact hs
    exact rd_block hsL (by decide) rfl
  refine EvC.seq ?_
  refine EvC.seq ?_
  refine EvC.reg ?_
  refine EvOps.step (n := 0) rfl ?_
  refine EvOps.step (n := 0) rfl ?_
  first | refine EvOps.ldL rfl rfl rfl ?_ | refine EvOps.ldLm rfl rfl rfl (by simp only [List.length_set, S2_len]) ?_ | refine EvOps.ldH rfl rfl (by assumption) ?_
  refine EvOps.step (n := 0) rfl ?_
  refine EvOps.step (n := 0) rfl ?_
  refine EvOps.nil ?_
  simp only [KP, KH, KC, ↓reduceIte, Nat.reduceEqDiff, Nat.reduceAdd]
  refine EvC.condS rfl (fun hc => ?_) (fun hc => ?_)
  · first
     | cases hc; done
     | refine EvC.skip ?_
       refine EvC.seq ?_
       refine EvC.block ?_
       refine EvC.seq ?_
       refine EvC.reg ?_
       have hix : i < s.pts.length := by simpa using hc
       generalize hG : S2 HB (h.length + 1) ⟨fl cV (mv1 s i).1, .own⟩ ⟨fl cV (mv1 s i).2, .own⟩ ++ l = G
       have gs : G[(h.length + 5)]? = some ⟨strCells (h.length + 1) true s, .own⟩ := by rw [← hG]; exact get_old (by rw [S2_ne (by omega) (by omega)]; exact hs)
       have gP : G[(h.length + 1)]? = some ⟨fl cV (mv1 s i).1, .own⟩ := by rw [← hG]; exact get_old (S2_get0 hn0)
       have gB : G[(h.length + 1) + 1]? = some ⟨fl cV (mv1 s i).2, .own⟩ := by rw [← hG]; exact get_old (S2_get1 hn1)
       have gF : G[(h.length + 1) + 2]? = some ⟨fl cB s.fixed, .own⟩ := by rw [← hG]; exact get_old (by rw [S2_ne (by omega) (by omega)]; exact A.fixed)
       have gs0 : rd G ((⟨h.length + 5, 0⟩ : Ref).add 0) = some (oP (h.length + 1) true s) := rd_block gs (by decide) rfl
       have gs1 : rd G ((⟨h.length + 5, 0⟩ : Ref).add 1) = some (oB (h.length + 1) true s) := rd_block gs (by decide) rfl
       have gs2 : rd G ((⟨h.length + 5, 0⟩ : Ref).add 2) = some (oF (h.length + 1) true s) := rd_block gs (by decide) rfl
       have gs3 : rd G ((⟨h.length + 5, 0⟩ : Ref).add 3) = some (oL (h.length + 1) true s) := rd_block gs (by decide) rfl
       have gs7 : rd G ((⟨h.length + 5, 0⟩ : Ref).add 7) = some (f32 s.damp) := rd_block gs (by decide) rfl
       have gs8 : rd G ((⟨h.length + 5, 0⟩ : Ref).add 8) = some (i64 s.passes) := rd_block gs (by decide) rfl
       have gs4 : rdn G ((⟨h.length + 5, 0⟩ : Ref).add 4) 3 = some (cV s.fall) := rdn_block gs (by decide) (by simp [Ref.add])
       have eP := rdE v0 gP (by decide) (by rw [(mv1_len s i).1]; exact hix : i < (mv1 s i).1.length)
       have eB := rdE v0 gB (by decide) (by rw [(mv1_len s i).2]; omega : i < (mv1 s i).2.length)
       have eF := rd_of_rdn (rdE false gF (by decide) (by omega : i < s.fixed.length))
       have gn0 := at_lt gP
       have gn1 := at_lt gB
       rw [← List.append_nil G]
       refine EvOps.step (n := 0) rfl ?_
       first | refine EvOps.ldL rfl rfl rfl ?_ | refine EvOps.ldLm rfl rfl rfl (by simp only [List.length_set, S2_len]) ?_ | refine EvOps.ldH rfl rfl (by assumption) ?_
       refine EvOps.step (n := 0) rfl ?_
       first | refine EvOps.iaN rfl rfl (by omega) ?_
       first | refine EvOps.ldnL rfl rfl rfl ?_ | refine EvOps.ldnLm rfl rfl rfl (by simp only [List.length_set, S2_len]) ?_ | refine EvOps.ldnH rfl rfl (by assumption) ?_
       refine EvOps.allocL rfl rfl ?_
       first | refine EvOps.stL rfl rfl rfl rfl ?_ | refine EvOps.stLm rfl rfl rfl rfl (by simp only [List.length_set, S2_len]) ?_ | refine EvOps.stH rfl rfl rfl (by assumption) ?_
       refine EvOps.nil ?_
       simp only [KP, KH, KC, ↓reduceIte, Nat.reduceEqDiff, Nat.reduceAdd]
       refine EvC.seq ?_
       refine EvC.seq ?_
       refine EvC.reg ?_
       refine EvOps.step (n := 0) rfl ?_
       first | refine EvOps.ldL rfl rfl rfl ?_ | refine EvOps.ldLm rfl rfl rfl (by simp only [List.length_set, S2_len]) ?_ | refine EvOps.ldH rfl rfl (by assumption) ?_
       refine EvOps.step (n := 0) rfl ?_
       first | refine EvOps.iaN rfl rfl (by omega) ?_
       first | refine EvOps.ldL rfl rfl rfl ?_ | refine EvOps.ldLm rfl rfl rfl (by simp only [List.length_set, S2_len]) ?_ | refine EvOps.ldH rfl rfl (by assumption) ?_
       refine EvOps.step (n := 0) rfl ?_
       refine EvOps.nil ?_
       simp only [KP, KH, KC, ↓reduceIte, Nat.reduceEqDiff, Nat.reduceAdd]
       refine EvC.condS rfl (fun hc => ?_) (fun hc => ?_)
       · first
          | cases hc; done
          | refine EvC.seq ?_
            refine EvC.drw rfl ?_
            have hfx : s.fixed.getD i false = false := by simpa using hc
            first | refine EvOps.ldnL rfl rfl rfl ?_ | refine EvOps.ldnLm rfl rfl rfl (by simp only [List.length_set, S2_len]) ?_ | refine EvOps.ldnH rfl rfl (by assumption) ?_
            first | refine EvOps.ldnL rfl rfl rfl ?_ | refine EvOps.ldnLm rfl rfl rfl (by simp only [List.length_set, S2_len]) ?_ | refine EvOps.ldnH rfl rfl (by assumption) ?_
            refine EvOps.step (n := 0) rfl ?_
            first | refine EvOps.ldL rfl rfl rfl ?_ | refine EvOps.ldLm rfl rfl rfl (by simp only [List.length_set, S2_len]) ?_ | refine EvOps.ldH rfl rfl (by assumption) ?_
            refine EvOps.step (n := 0) rfl ?_
            first | refine EvOps.iaN rfl rfl (by omega) ?_
            first | refine EvOps.ldnL rfl rfl rfl ?_ | refine EvOps.ldnLm rfl rfl rfl (by simp only [List.length_set, S2_len]) ?_ | refine EvOps.ldnH rfl rfl (by assumption) ?_
            refine EvOps.call rfl rfl ?_
            refine w80 (u := ((mv1 s i).1.getD i v0)) (v := ((mv1 s i).2.getD i v0)) ?_
            refine EvOps.step (n := 0) rfl ?_
            first | refine EvOps.ldL rfl rfl rfl ?_ | refine EvOps.ldLm rfl rfl rfl (by simp only [List.length_set, S2_len]) ?_ | refine EvOps.ldH rfl rfl (by assumption) ?_
            refine EvOps.call rfl rfl ?_
            refine w79 (u := (((mv1 s i).1.getD i v0).sub ((mv1 s i).2.getD i v0))) (k := s.damp) ?_
            refine EvOps.call rfl rfl ?_
            refine w78 (u := ((mv1 s i).1.getD i v0)) (v := ((((mv1 s i).1.getD i v0).sub ((mv1 s i).2.getD i v0)).scale s.damp)) ?_
            refine EvOps.allocL rfl rfl ?_
            first | refine EvOps.stL rfl rfl rfl rfl ?_ | refine EvOps.stLm rfl rfl rfl rfl (by simp only [List.length_set, S2_len]) ?_ | refine EvOps.stH rfl rfl rfl (by assumption) ?_
            refine EvOps.nil ?_
            simp only [KP, KH, KC, ↓reduceIte, Nat.reduceEqDiff, Nat.reduceAdd]
            refine EvC.drw rfl ?_
            refine EvOps.step (n := 0) rfl ?_
            first | refine EvOps.ldL rfl rfl rfl ?_ | refine EvOps.ldLm rfl rfl rfl (by simp only [List.length_set, S2_len]) ?_ | refine EvOps.ldH rfl rfl (by assumption) ?_
            refine EvOps.step (n := 0) rfl ?_
            first | refine EvOps.ldnL rfl rfl rfl ?_ | refine EvOps.ldnLm rfl rfl rfl (by simp only [List.length_set, S2_len]) ?_ | refine EvOps.ldnH rfl rfl (by assumption) ?_
            refine EvOps.step (n := 0) rfl ?_
            first | refine EvOps.ldnL rfl rfl rfl ?_ | refine EvOps.ldnLm rfl rfl rfl (by simp only [List.length_set, S2_len]) ?_ | refine EvOps.ldnH rfl rfl (by assumption) ?_
            refine EvOps.call rfl rfl ?_
            refine w78 (u := (((mv1 s i).1.getD i v0).add ((((mv1 s i).1.getD i v0).sub ((mv1 s i).2.getD i v0)).scale s.damp))) (v := s.fall) ?_
            first | refine EvOps.iaN rfl rfl (by omega) ?_
            refine EvOps.stEH cV (mv1 s i).1 (((((mv1 s i).1.getD i v0).add ((((mv1 s i).1.getD i v0).sub ((mv1 s i).2.getD i v0)).scale s.damp)).add s.fall)) (b := (h.length + 1)) (i := i) rfl rfl gP (by rw [(mv1_len s i).1]; exact hix) rfl ?_
            have q1 : rd (G.set (h.length + 1) ⟨fl cV ((mv1 s i).1.set i (((((mv1 s i).1.getD i v0).add ((((mv1 s i).1.getD i v0).sub ((mv1 s i).2.getD i v0)).scale s.damp)).add s.fall))), .own⟩) ((⟨h.length + 5, 0⟩ : Ref).add 1) = some (oB (h.length + 1) true s) := by rw [rd_set (by dsimp only [Ref.add]; omega)]; exact gs1
            have gB' : (G.set (h.length + 1) ⟨fl cV ((mv1 s i).1.set i (((((mv1 s i).1.getD i v0).add ((((mv1 s i).1.getD i v0).sub ((mv1 s i).2.getD i v0)).scale s.damp)).add s.fall))), .own⟩)[(h.length + 1) + 1]? = some ⟨fl cV (mv1 s i).2, .own⟩ := by rw [List.getElem?_set_ne (by omega)]; exact gB
            refine EvOps.nil ?_
            simp only [KP, KH, KC, ↓reduceIte, Nat.reduceEqDiff, Nat.reduceAdd]
            refine EvC.reg ?_
            first | (have hfx : s.fixed.getD i false = true := by simpa using hc) | skip
            refine EvOps.step (n := 0) rfl ?_
            first | refine EvOps.ldL rfl rfl rfl ?_ | refine EvOps.ldLm rfl rfl rfl (by simp only [List.length_set, S2_len]) ?_ | refine EvOps.ldH rfl rfl (by assumption) ?_
            refine EvOps.step (n := 0) rfl ?_
            first | refine EvOps.ldnL rfl rfl rfl ?_ | refine EvOps.ldnLm rfl rfl rfl (by simp only [List.length_set, S2_len]) ?_ | refine EvOps.ldnH rfl rfl (by assumption) ?_
            first | refine EvOps.iaN rfl rfl (by omega) ?_
            refine EvOps.stEH cV (mv1 s i).2 ((mv1 s i).1.getD i v0) (b := (h.length + 1) + 1) (i := i) rfl rfl (by assumption) (by rw [(mv1_len s i).2]; omega) rfl ?_
            refine EvOps.nil ?_
            simp only [KP, KH, KC, ↓reduceIte, Nat.reduceEqDiff, Nat.reduceAdd]
            refine EvC.reg ?_
            refine EvOps.step (n := 0) rfl ?_
            first | refine EvOps.addI rfl rfl (by omega) ?_ | refine EvOps.step (n := 0) rfl ?_
            refine EvOps.step (n := 0) rfl ?_
            refine EvOps.nil ?_
            simp only [KP, KH, KC, ↓reduceIte, Nat.reduceEqDiff, Nat.reduceAdd]
            first
              | (refine ⟨s.pts.length - (i + 1), by omega, i + 1, l ++ [⟨cV ((mv1 s i).1.getD i v0), .own⟩], (by first | rfl | trivial), by omega, ?_, (by first | rfl | trivial)⟩; subst hG; rw [mv1_t hfx, set_old (by rw [S2_len]; omega), S2_set1, List.append_assoc]; try rfl; done)
              | (refine ⟨s.pts.length - (i + 1), by omega, i + 1, l ++ [⟨cV ((mv1 s i).1.getD i v0), .own⟩, ⟨cV ((((mv1 s i).1.getD i v0).add ((((mv1 s i).1.getD i v0).sub ((mv1 s i).2.getD i v0)).scale s.damp))), .own⟩], (by first | rfl | trivial), by omega, ?_, (by first | rfl | trivial)⟩; subst hG; rw [mv1_f hfx, set_old (by rw [S2_len]; omega), S2_set0, set_old (by rw [S2_len]; omega), S2_set1, List.append_assoc]; try rfl; done)
       · first
          | cases hc; done
          | refine EvC.skip ?_
            refine EvC.reg ?_
            first | (have hfx : s.fixed.getD i false = true := by simpa using hc) | skip
            refine EvOps.step (n := 0) rfl ?_
            first | refine EvOps.ldL rfl rfl rfl ?_ | refine EvOps.ldLm rfl rfl rfl (by simp only [List.length_set, S2_len]) ?_ | refine EvOps.ldH rfl rfl (by assumption) ?_
            refine EvOps.step (n := 0) rfl ?_
            first | refine EvOps.ldnL rfl rfl rfl ?_ | refine EvOps.ldnLm rfl rfl rfl (by simp only [List.length_set, S2_len]) ?_ | refine EvOps.ldnH rfl rfl (by assumption) ?_
            first | refine EvOps.iaN rfl rfl (by omega) ?_
            refine EvOps.stEH cV (mv1 s i).2 ((mv1 s i).1.getD i v0) (b := (h.length + 1) + 1) (i := i) rfl rfl (by assumption) (by rw [(mv1_len s i).2]; omega) rfl ?_
            refine EvOps.nil ?_
            simp only [KP, KH, KC, ↓reduceIte, Nat.reduceEqDiff, Nat.reduceAdd]
            refine EvC.reg ?_
            refine EvOps.step (n := 0) rfl ?_
            first | refine EvOps.addI rfl rfl (by omega) ?_ | refine EvOps.step (n := 0) rfl ?_
            refine EvOps.step (n := 0) rfl ?_
            refine EvOps.nil ?_
            simp only [KP, KH, KC, ↓reduceIte, Nat.reduceEqDiff, Nat.reduceAdd]
            first
              | (refine ⟨s.pts.length - (i + 1), by omega, i + 1, l ++ [⟨cV ((mv1 s i).1.getD i v0), .own⟩], (by first | rfl | trivial), by omega, ?_, (by first | rfl | trivial)⟩; subst hG; rw [mv1_t hfx, set_old (by rw [S2_len]; omega), S2_set1, List.append_assoc]; try rfl; done)
              | (refine ⟨s.pts.length - (i + 1), by omega, i + 1, l ++ [⟨cV ((mv1 s i).1.getD i v0), .own⟩, ⟨cV ((((mv1 s i).1.getD i v0).add ((((mv1 s i).1.getD i v0).sub ((mv1 s i).2.getD i v0)).scale s.damp))), .own⟩], (by first | rfl | trivial), by omega, ?_, (by first | rfl | trivial)⟩; subst hG; rw [mv1_f hfx, set_old (by rw [S2_len]; omega), S2_set0, set_old (by rw [S2_len]; omega), S2_set1, List.append_assoc]; try rfl; done)
  · first
     | cases hc; done
     | refine EvC.exit ?_
       refine EvC.seq ?_
       refine EvC.seq ?_
       refine EvC.reg ?_
       refine EvOps.step (n := 0) rfl ?_
       refine EvOps.nil ?_
       simp only [KP, KH, KC, ↓reduceIte, Nat.reduceEqDiff, Nat.reduceAdd]
       refine EvC.block ?_
       have hil : i = s.pts.length := by simp at hc; omega
       subst hil
       clear f0
       generalize hP0e : (mv1 s s.pts.length).1 = P0
       have hP0 : P0.length = s.pts.length := by rw [← hP0e]; exact (mv1_len s _).1
       generalize hG : S2 HB (h.length + 1) ⟨fl cV P0, .own⟩ ⟨fl cV (mv1 s s.pts.length).2, .own⟩ ++ l = G
       have gs : G[(h.length + 5)]? = some ⟨strCells (h.length + 1) true s, .own⟩ := by rw [← hG]; exact get_old (by rw [S2_ne (by omega) (by omega)]; exact hs)
       have gP : G[(h.length + 1)]? = some ⟨fl cV P0, .own⟩ := by rw [← hG]; exact get_old (S2_get0 hn0)
       have gF : G[(h.length + 1) + 2]? = some ⟨fl cB s.fixed, .own⟩ := by rw [← hG]; exact get_old (by rw [S2_ne (by omega) (by omega)]; exact A.fixed)
       have gL : G[(h.length + 1) + 3]? = some ⟨fl cF s.lens, .own⟩ := by rw [← hG]; exact get_old (by rw [S2_ne (by omega) (by omega)]; exact A.lens)
       have gn0 := at_lt gP
       refine EvC.loop (fun c e hh => ∃ (k : Nat), c = s.passes.toNat - k ∧ k ≤ s.passes.toNat ∧ hh = G.set (h.length + 1) ⟨fl cV (passN s k P0), .own⟩ ++ [] ∧ e = [(2, .p (some ⟨h.length + 0, 0⟩)), (3, .p (some ⟨h.length + 5, 0⟩)), (7, i64 k)]) (k := s.passes.toNat) ⟨0, by simp, by simp, by rw [show passN s 0 P0 = P0 from rfl, list_set_self gP, List.append_nil], rfl⟩ ?_
       rintro c e hh ⟨k, rfl, hk, rfl, rfl⟩
       have kf8 : rd (G.set (h.length + 1) ⟨fl cV (passN s k P0), .own⟩) ((⟨h.length + 5, 0⟩ : Ref).add 8) = some (i64 s.passes) := by rw [rd_set (by dsimp only [Ref.add]; omega)]; exact rd_block gs (by decide) rfl
       refine EvC.seq ?_
       refine EvC.seq ?_
       refine EvC.reg ?_
       refine EvOps.step (n := 0) rfl ?_
       refine EvOps.step (n := 0) rfl ?_
       first | refine EvOps.ldL rfl rfl rfl ?_ | refine EvOps.ldLm rfl rfl rfl (by simp only [List.length_set, S2_len]) ?_ | refine EvOps.ldH rfl rfl (by assumption) ?_
       refine EvOps.step (n := 0) rfl ?_
       refine EvOps.nil ?_
       simp only [KP, KH, KC, ↓reduceIte, Nat.reduceEqDiff, Nat.reduceAdd]
       refine EvC.condS rfl (fun hc => ?_) (fun hc => ?_)
       · first
          | cases hc; done
          | refine EvC.skip ?_
            refine EvC.seq ?_
            refine EvC.block ?_
            refine EvC.seq ?_
            refine EvC.reg ?_
            refine EvOps.step (n := 0) rfl ?_
            refine EvOps.nil ?_
            simp only [KP, KH, KC, ↓reduceIte, Nat.reduceEqDiff, Nat.reduceAdd]
            refine EvC.block ?_
            have hkx : k < s.passes.toNat := by
              simp at hc; omega
            refine EvC.loop (fun c e hh => ∃ (i : Nat), c = s.lens.length - i ∧ i ≤ s.lens.length ∧ hh = G.set (h.length + 1) ⟨fl cV (pass s i (passN s k P0)), .own⟩ ++ [] ∧ e = [(2, .p (some ⟨h.length + 0, 0⟩)), (3, .p (some ⟨h.length + 5, 0⟩)), (7, i64 k), (8, i64 i), (57, .b (decide ((k : Int) < s.passes)))]) (k := s.lens.length) ⟨0, by simp, by simp, rfl, rfl⟩ ?_
            rintro c e hh ⟨i, rfl, hi, rfl, rfl⟩
            have kf0 : rd (G.set (h.length + 1) ⟨fl cV (pass s i (passN s k P0)), .own⟩) ((⟨h.length + 5, 0⟩ : Ref).add 0) = some (oP (h.length + 1) true s) := by rw [rd_set (by dsimp only [Ref.add]; omega)]; exact rd_block gs (by decide) rfl
            refine EvC.seq ?_
            refine EvC.seq ?_
            refine EvC.reg ?_
            refine EvOps.step (n := 0) rfl ?_
            first | refine EvOps.addI rfl rfl (by omega) ?_ | refine EvOps.step (n := 0) rfl ?_
            refine EvOps.step (n := 0) rfl ?_
            first | refine EvOps.ldL rfl rfl rfl ?_ | refine EvOps.ldLm rfl rfl rfl (by simp only [List.length_set, S2_len]) ?_ | refine EvOps.ldH rfl rfl (by assumption) ?_
            refine EvOps.step (n := 0) rfl ?_
            refine EvOps.step (n := 0) rfl ?_
            refine EvOps.nil ?_
            simp only [KP, KH, KC, ↓reduceIte, Nat.reduceEqDiff, Nat.reduceAdd]
            refine EvC.condS rfl (fun hc => ?_) (fun hc => ?_)
            · first
               | cases hc; done
               | refine EvC.skip ?_
                 refine EvC.seq ?_
                 refine EvC.block ?_
                 refine EvC.reg ?_
                 have hix : i < s.lens.length := by
                   simp at hc; omega
                 have gsX : (G.set (h.length + 1) ⟨fl cV (pass s i (passN s k P0)), .own⟩ ++ [])[(h.length + 5)]? = some ⟨strCells (h.length + 1) true s, .own⟩ := get_old (by rw [List.getElem?_set_ne (by omega)]; exact gs)
                 have gPX : (G.set (h.length + 1) ⟨fl cV (pass s i (passN s k P0)), .own⟩ ++ [])[(h.length + 1)]? = some ⟨fl cV (pass s i (passN s k P0)), .own⟩ := get_old (List.getElem?_set_self gn0)
                 have gFX : (G.set (h.length + 1) ⟨fl cV (pass s i (passN s k P0)), .own⟩ ++ [])[(h.length + 1) + 2]? = some ⟨fl cB s.fixed, .own⟩ := get_old (by rw [List.getElem?_set_ne (by omega)]; exact gF)
                 have gLX : (G.set (h.length + 1) ⟨fl cV (pass s i (passN s k P0)), .own⟩ ++ [])[(h.length + 1) + 3]? = some ⟨fl cF s.lens, .own⟩ := get_old (by rw [List.getElem?_set_ne (by omega)]; exact gL)
                 refine EvOps.step (n := 0) rfl ?_
                 refine EvOps.call rfl rfl ?_
                 refine w81 (n := (h.length + 1)) (s := s) (P := pass s i (passN s k P0)) (i := i) gsX gPX gFX gLX (by rw [pass_len, passN_len]; exact hP0) ⟨by rw [pass_len, passN_len, hP0]; exact od, by rw [pass_len, passN_len, hP0]; omega, hix, by rw [pass_len, passN_len, hP0]; omega⟩ (by omega) (by omega) ?_
                 rw [set_old (by simpa using gn0), List.set_set]
                 refine EvOps.nil ?_
                 simp only [KP, KH, KC, ↓reduceIte, Nat.reduceEqDiff, Nat.reduceAdd]
                 refine EvC.reg ?_
                 refine EvOps.step (n := 0) rfl ?_
                 first | refine EvOps.addI rfl rfl (by omega) ?_ | refine EvOps.step (n := 0) rfl ?_
                 refine EvOps.step (n := 0) rfl ?_
                 refine EvOps.nil ?_
                 simp only [KP, KH, KC, ↓reduceIte, Nat.reduceEqDiff, Nat.reduceAdd]
                 exact ⟨s.lens.length - (i + 1), by omega, i + 1, (by first | rfl | trivial), by omega, (by first | rfl | trivial), (by first | rfl | trivial)⟩
            · first
               | cases hc; done
               | refine EvC.exit ?_
                 refine EvC.reg ?_
                 refine EvOps.step (n := 0) rfl ?_
                 first | refine EvOps.addI rfl rfl (by omega) ?_ | refine EvOps.step (n := 0) rfl ?_
                 refine EvOps.step (n := 0) rfl ?_
                 refine EvOps.nil ?_
                 simp only [KP, KH, KC, ↓reduceIte, Nat.reduceEqDiff, Nat.reduceAdd]
                 exact ⟨s.passes.toNat - (k + 1), by omega, k + 1, (by first | rfl | trivial), by omega, by
                   have : i = s.lens.length := by simp at hc; omega
                   subst this; rfl, (by first | rfl | trivial)⟩
       · first
          | cases hc; done
          | refine EvC.exit ?_
            refine EvC.seq ?_
            refine EvC.reg ?_
            have hk2 : k = s.passes.toNat := by simp at hc; omega
            subst hk2
            refine EvOps.heap (h ++ ([⟨zeroCells, .own⟩, ⟨fl cV s.step.pts, .own⟩, ⟨fl cV s.step.bef, .own⟩, ⟨fl cB s.fixed, .own⟩, ⟨fl cF s.lens, .own⟩, ⟨strCells (h.length + 1) true s, .own⟩] ++ l)) (by
              subst hG
              rw [set_old (by rw [S2_len]; omega), S2_set0, List.append_nil, hHB, S2_new, List.append_assoc]
              subst hP0e; rfl) ?_
            first | refine EvOps.ldnL rfl rfl rfl ?_ | refine EvOps.ldnLm rfl rfl rfl (by simp only [List.length_set, S2_len]) ?_ | refine EvOps.ldnH rfl rfl (by assumption) ?_
            first | refine EvOps.stL rfl rfl rfl rfl ?_ | refine EvOps.stLm rfl rfl rfl rfl (by simp only [List.length_set, S2_len]) ?_ | refine EvOps.stH rfl rfl rfl (by assumption) ?_
            refine EvOps.nil ?_
            simp only [KP, KH, KC, ↓reduceIte, Nat.reduceEqDiff, Nat.reduceAdd]
            refine EvC.ret ?_
            refine Res.finR (show resVals _ _ [.cells 2 9] = _ from by simp only [resVals, ARes.val, Env.get, rdn_new, rd_new, ↓reduceIte, Nat.reduceEqDiff]; rfl) ?_
            refine ⟨List.prefix_append _ _, Neat.new [(1, fl cV s.step.pts), (2, fl cV s.step.bef), (3, fl cB s.fixed), (4, fl cF s.lens)] (Chg.refl h) (by simp [AV.refs, refsL, pack, if_new, Nat.add_assoc]) (by simp) (by simp [fl_lim]) ?_⟩
            simp [AV.ren, renL, reno_new, reno_new0, pack, List.idxOf_cons, grOf, beq_add1, beq_add2, beq_add3, Nat.add_assoc]
            simp only [strOut, oP, oB, step_pts_len, step_bef_len, grOf] at hq
            exact hq
end
end Go.V.Try
