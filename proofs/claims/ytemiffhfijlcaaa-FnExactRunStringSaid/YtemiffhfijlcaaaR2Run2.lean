import Derived.Test.YtemiffhfijlcaaaR2Run
set_option linter.unusedSimpArgs false
set_option linter.unusedVariables false
set_option linter.unusedSectionVars false
/-! Steps of a string, the other side; one step. -/
namespace Go.V.Try
open Go Go.V
section
variable {h : H} {Q : AV → H → Prop}
/-- impl.StepString -/
theorem w15T {r1 r2 r3 r4 : Option Ref} {c1 c2 c3 c4 : Nat} {g1 g2 g3 g4 : Option Nat} {s : Str} (a : StrV h (.sl r1 s.pts.length c1 g1) (.sl r2 s.bef.length c2 g2) (.sl r3 s.fixed.length c3 g3) (.sl r4 s.lens.length c4 g4) s) (hs : s.pts.length < 2 ^ 40) (hok : s.ok = true) (hq : Q (.tup [strOut h.length true s.step, .b true]) (h ++ strBlk s.step)) : W Φ 15 [strAV (.sl r1 s.pts.length c1 g1) (.sl r2 s.bef.length c2 g2) (.sl r3 s.fixed.length c3 g3) (.sl r4 s.lens.length c4 g4) s] h Q := by
  refine W.freshL (F := F15) rfl ?_
  refine EvC.seq ?_
  refine EvC.reg ?_
  refine EvOps.boxL rfl rfl rfl rfl rfl ?_
  refine EvOps.allocL rfl rfl ?_
  refine EvOps.step (n := 0) rfl ?_
  refine EvOps.nil ?_
  simp only [KP, KH, KC, ↓reduceIte, Nat.reduceEqDiff, Nat.reduceAdd]
  refine EvC.seq ?_
  refine EvC.reg ?_
  first | refine EvOps.ldnL rfl rfl rfl ?_ | refine EvOps.ldnLm rfl rfl rfl (by simp only [List.length_set, S2_len]) ?_ | refine EvOps.ldnH rfl rfl (by assumption) ?_
  refine EvOps.call rfl rfl ?_
  refine w9 (s := s) (k := 1) (StrV.app _ a) hs ?_
  rw [if_pos (by simp [hok])]
  rw [show strOut _ true (stepN (1 : Int).toNat s) = strOut _ true s.step from rfl, show strBlk (stepN (1 : Int).toNat s) = strBlk s.step from rfl]
  try simp only [List.append_assoc, List.cons_append, List.nil_append, List.length_append, List.length_cons, List.length_nil, Nat.zero_add, Nat.reduceAdd]
  refine EvOps.step (n := 0) rfl ?_
  refine EvOps.step (n := 0) rfl ?_
  first | refine EvOps.stL rfl rfl rfl rfl ?_ | refine EvOps.stLm rfl rfl rfl rfl (by simp only [List.length_set, S2_len]) ?_ | refine EvOps.stH rfl rfl rfl (by assumption) ?_
  refine EvOps.step (n := 0) rfl ?_
  refine EvOps.nil ?_
  simp only [KP, KH, KC, ↓reduceIte, Nat.reduceEqDiff, Nat.reduceAdd]
  refine EvC.ret ?_
  refine Res.finR (show resVals _ _ [.cells 2 9, .tmp 3] = _ from by simp only [resVals, ARes.val, Env.get, rdn_new, rd_new, ↓reduceIte, Nat.reduceEqDiff]; rfl) ?_
  refine ⟨List.prefix_append _ _, Neat.new [(2, fl cV (s.step).pts), (2 + 1, fl cV (s.step).bef), (2 + 2, fl cB (s.step).fixed), (2 + 3, fl cF (s.step).lens)] (Chg.refl h) (by simp [AV.refs, refsL, pack, if_new, Nat.add_assoc]) (by simp) (by simp [fl_lim]) ?_⟩
  simp [AV.ren, renL, reno_new, reno_new0, pack, List.idxOf_cons, grOf, beq_add1, beq_add2, beq_add3, Nat.add_assoc]
  exact hq
/-- impl.StepString -/
theorem w15F {r1 r2 r3 r4 : Option Ref} {c1 c2 c3 c4 : Nat} {g1 g2 g3 g4 : Option Nat} {s : Str} (a : StrV h (.sl r1 s.pts.length c1 g1) (.sl r2 s.bef.length c2 g2) (.sl r3 s.fixed.length c3 g3) (.sl r4 s.lens.length c4 g4) s) (hs : s.pts.length < 2 ^ 40) (hok : s.ok = false) (hq : Q (.tup [.agg zeroCells, .b false]) h) : W Φ 15 [strAV (.sl r1 s.pts.length c1 g1) (.sl r2 s.bef.length c2 g2) (.sl r3 s.fixed.length c3 g3) (.sl r4 s.lens.length c4 g4) s] h Q := by
  refine W.freshL (F := F15) rfl ?_
  refine EvC.seq ?_
  refine EvC.reg ?_
  refine EvOps.boxL rfl rfl rfl rfl rfl ?_
  refine EvOps.allocL rfl rfl ?_
  refine EvOps.step (n := 0) rfl ?_
  refine EvOps.nil ?_
  simp only [KP, KH, KC, ↓reduceIte, Nat.reduceEqDiff, Nat.reduceAdd]
  refine EvC.seq ?_
  refine EvC.reg ?_
  first | refine EvOps.ldnL rfl rfl rfl ?_ | refine EvOps.ldnLm rfl rfl rfl (by simp only [List.length_set, S2_len]) ?_ | refine EvOps.ldnH rfl rfl (by assumption) ?_
  refine EvOps.call rfl rfl ?_
  refine w9 (s := s) (k := 1) (StrV.app _ a) hs ?_
  rw [if_neg (by simp [hok])]
  try simp only [List.append_assoc, List.cons_append, List.nil_append, List.length_append, List.length_cons, List.length_nil, Nat.zero_add, Nat.reduceAdd]
  refine EvOps.step (n := 0) rfl ?_
  refine EvOps.step (n := 0) rfl ?_
  first | refine EvOps.stL rfl rfl rfl rfl ?_ | refine EvOps.stLm rfl rfl rfl rfl (by simp only [List.length_set, S2_len]) ?_ | refine EvOps.stH rfl rfl rfl (by assumption) ?_
  refine EvOps.step (n := 0) rfl ?_
  refine EvOps.nil ?_
  simp only [KP, KH, KC, ↓reduceIte, Nat.reduceEqDiff, Nat.reduceAdd]
  refine EvC.ret ?_
  refine Res.finR (show resVals _ _ [.cells 2 9, .tmp 3] = _ from by simp only [resVals, ARes.val, Env.get, rdn_new, rd_new, ↓reduceIte, Nat.reduceEqDiff]; rfl) ?_
  exact ⟨List.prefix_append _ _, Neat.no (by rfl) (Chg.refl h) hq⟩
/-- spec.StepString -/
theorem w18T {r1 r2 r3 r4 : Option Ref} {c1 c2 c3 c4 : Nat} {g1 g2 g3 g4 : Option Nat} {s : Str} (a : StrV h (.sl r1 s.pts.length c1 g1) (.sl r2 s.bef.length c2 g2) (.sl r3 s.fixed.length c3 g3) (.sl r4 s.lens.length c4 g4) s) (hs : s.pts.length < 2 ^ 40) (hok : s.ok = true) (hq : Q (.tup [strOut h.length true s.step, .b true]) (h ++ strBlk s.step)) : W Φ 18 [strAV (.sl r1 s.pts.length c1 g1) (.sl r2 s.bef.length c2 g2) (.sl r3 s.fixed.length c3 g3) (.sl r4 s.lens.length c4 g4) s] h Q := by
  refine W.freshL (F := F18) rfl ?_
  refine EvC.seq ?_
  refine EvC.reg ?_
  refine EvOps.boxL rfl rfl rfl rfl rfl ?_
  refine EvOps.allocL rfl rfl ?_
  refine EvOps.step (n := 0) rfl ?_
  refine EvOps.nil ?_
  simp only [KP, KH, KC, ↓reduceIte, Nat.reduceEqDiff, Nat.reduceAdd]
  refine EvC.seq ?_
  refine EvC.seq ?_
  refine EvC.reg ?_
  refine EvOps.call rfl rfl ?_
  refine w43 (s := s) (bs := h.length + 0) (by rw [get_new]; rfl) (by decide) hs ?_
  refine EvOps.step (n := 0) rfl ?_
  refine EvOps.nil ?_
  simp only [KP, KH, KC, ↓reduceIte, Nat.reduceEqDiff, Nat.reduceAdd]
  refine EvC.condS rfl (fun hc => ?_) (fun hc => ?_)
  · first
     | cases hc; done
     | refine EvC.seq ?_
       refine EvC.reg ?_
       refine EvOps.step (n := 0) rfl ?_
       first | refine EvOps.stL rfl rfl rfl rfl ?_ | refine EvOps.stLm rfl rfl rfl rfl (by simp only [List.length_set, S2_len]) ?_ | refine EvOps.stH rfl rfl rfl (by assumption) ?_
       refine EvOps.step (n := 0) rfl ?_
       refine EvOps.nil ?_
       simp only [KP, KH, KC, ↓reduceIte, Nat.reduceEqDiff, Nat.reduceAdd]
       refine EvC.ret ?_
       refine Res.finR (show resVals _ _ [.cells 2 9, .tmp 3] = _ from by simp only [resVals, ARes.val, Env.get, rdn_new, rd_new, ↓reduceIte, Nat.reduceEqDiff]; rfl) ?_
       first
         | (exfalso; simp [hok] at hc; done)
         | (refine ⟨List.prefix_append _ _, Neat.new [(2, fl cV (s.step).pts), (2 + 1, fl cV (s.step).bef), (2 + 2, fl cB (s.step).fixed), (2 + 3, fl cF (s.step).lens)] (Chg.refl h) (by simp [AV.refs, refsL, pack, if_new, Nat.add_assoc]) (by simp) (by simp [fl_lim]) ?_⟩; simp [AV.ren, renL, reno_new, reno_new0, pack, List.idxOf_cons, grOf, beq_add1, beq_add2, beq_add3, Nat.add_assoc]; exact hq)
  · first
     | cases hc; done
     | refine EvC.skip ?_
       refine EvC.seq ?_
       refine EvC.reg ?_
       refine EvOps.call rfl rfl ?_
       have ok : s.Ok := (Str.ok_iff s).1 hok
       refine w44 (s := s) (bs := h.length + 0) (by rw [get_new]; rfl) (by decide) (StrV.app _ a) ok ?_
       simp only [List.append_assoc, List.cons_append, List.nil_append, List.length_append, List.length_cons, List.length_nil, Nat.zero_add, Nat.reduceAdd]
       first | refine EvOps.stL rfl rfl rfl rfl ?_ | refine EvOps.stLm rfl rfl rfl rfl (by simp only [List.length_set, S2_len]) ?_ | refine EvOps.stH rfl rfl rfl (by assumption) ?_
       refine EvOps.step (n := 0) rfl ?_
       refine EvOps.nil ?_
       simp only [KP, KH, KC, ↓reduceIte, Nat.reduceEqDiff, Nat.reduceAdd]
       refine EvC.ret ?_
       refine Res.finR (show resVals _ _ [.cells 2 9, .tmp 3] = _ from by simp only [resVals, ARes.val, Env.get, rdn_new, rd_new, ↓reduceIte, Nat.reduceEqDiff]; rfl) ?_
       first
         | (exfalso; simp [hok] at hc; done)
         | (refine ⟨List.prefix_append _ _, Neat.new [(2, fl cV (s.step).pts), (2 + 1, fl cV (s.step).bef), (2 + 2, fl cB (s.step).fixed), (2 + 3, fl cF (s.step).lens)] (Chg.refl h) (by simp [AV.refs, refsL, pack, if_new, Nat.add_assoc]) (by simp) (by simp [fl_lim]) ?_⟩; simp [AV.ren, renL, reno_new, reno_new0, pack, List.idxOf_cons, grOf, beq_add1, beq_add2, beq_add3, Nat.add_assoc]; exact hq)
/-- spec.StepString -/
theorem w18F {r1 r2 r3 r4 : Option Ref} {c1 c2 c3 c4 : Nat} {g1 g2 g3 g4 : Option Nat} {s : Str} (a : StrV h (.sl r1 s.pts.length c1 g1) (.sl r2 s.bef.length c2 g2) (.sl r3 s.fixed.length c3 g3) (.sl r4 s.lens.length c4 g4) s) (hs : s.pts.length < 2 ^ 40) (hok : s.ok = false) (hq : Q (.tup [.agg zeroCells, .b false]) h) : W Φ 18 [strAV (.sl r1 s.pts.length c1 g1) (.sl r2 s.bef.length c2 g2) (.sl r3 s.fixed.length c3 g3) (.sl r4 s.lens.length c4 g4) s] h Q := by
  refine W.freshL (F := F18) rfl ?_
  refine EvC.seq ?_
  refine EvC.reg ?_
  refine EvOps.boxL rfl rfl rfl rfl rfl ?_
  refine EvOps.allocL rfl rfl ?_
  refine EvOps.step (n := 0) rfl ?_
  refine EvOps.nil ?_
  simp only [KP, KH, KC, ↓reduceIte, Nat.reduceEqDiff, Nat.reduceAdd]
  refine EvC.seq ?_
  refine EvC.seq ?_
  refine EvC.reg ?_
  refine EvOps.call rfl rfl ?_
  refine w43 (s := s) (bs := h.length + 0) (by rw [get_new]; rfl) (by decide) hs ?_
  refine EvOps.step (n := 0) rfl ?_
  refine EvOps.nil ?_
  simp only [KP, KH, KC, ↓reduceIte, Nat.reduceEqDiff, Nat.reduceAdd]
  refine EvC.condS rfl (fun hc => ?_) (fun hc => ?_)
  · first
     | cases hc; done
     | refine EvC.seq ?_
       refine EvC.reg ?_
       refine EvOps.step (n := 0) rfl ?_
       first | refine EvOps.stL rfl rfl rfl rfl ?_ | refine EvOps.stLm rfl rfl rfl rfl (by simp only [List.length_set, S2_len]) ?_ | refine EvOps.stH rfl rfl rfl (by assumption) ?_
       refine EvOps.step (n := 0) rfl ?_
       refine EvOps.nil ?_
       simp only [KP, KH, KC, ↓reduceIte, Nat.reduceEqDiff, Nat.reduceAdd]
       refine EvC.ret ?_
       refine Res.finR (show resVals _ _ [.cells 2 9, .tmp 3] = _ from by simp only [resVals, ARes.val, Env.get, rdn_new, rd_new, ↓reduceIte, Nat.reduceEqDiff]; rfl) ?_
       first | (exfalso; simp [hok] at hc; done) | exact ⟨List.prefix_append _ _, Neat.no (by rfl) (Chg.refl h) hq⟩
  · first
     | cases hc; done
     | refine EvC.skip ?_
       refine EvC.seq ?_
       refine EvC.reg ?_
       refine EvOps.call rfl rfl ?_
       have ok : s.Ok := (by simp [hok] at hc)
       refine w44 (s := s) (bs := h.length + 0) (by rw [get_new]; rfl) (by decide) (StrV.app _ a) ok ?_
       simp only [List.append_assoc, List.cons_append, List.nil_append, List.length_append, List.length_cons, List.length_nil, Nat.zero_add, Nat.reduceAdd]
       first | refine EvOps.stL rfl rfl rfl rfl ?_ | refine EvOps.stLm rfl rfl rfl rfl (by simp only [List.length_set, S2_len]) ?_ | refine EvOps.stH rfl rfl rfl (by assumption) ?_
       refine EvOps.step (n := 0) rfl ?_
       refine EvOps.nil ?_
       simp only [KP, KH, KC, ↓reduceIte, Nat.reduceEqDiff, Nat.reduceAdd]
       refine EvC.ret ?_
       refine Res.finR (show resVals _ _ [.cells 2 9, .tmp 3] = _ from by simp only [resVals, ARes.val, Env.get, rdn_new, rd_new, ↓reduceIte, Nat.reduceEqDiff]; rfl) ?_
       first | (exfalso; simp [hok] at hc; done) | exact ⟨List.prefix_append _ _, Neat.no (by rfl) (Chg.refl h) hq⟩
end
end Go.V.Try
