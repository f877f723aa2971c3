import Derived.Test.YtemiffhfijlcaaaR2Own
import Derived.Test.YtemiffhfijlcaaaR2Move
set_option linter.unusedSimpArgs false
set_option linter.unusedVariables false
set_option linter.unusedSectionVars false
/-! Steps of a string. -/
namespace Go.V.Try
open Go Go.V
section
variable {h : H} {Q : AV → H → Prop}
/-- impl.RunString -/
theorem w9 {r1 r2 r3 r4 : Option Ref} {c1 c2 c3 c4 : Nat} {g1 g2 g3 g4 : Option Nat} {s : Str} {k : Int} (a : StrV h (.sl r1 s.pts.length c1 g1) (.sl r2 s.bef.length c2 g2) (.sl r3 s.fixed.length c3 g3) (.sl r4 s.lens.length c4 g4) s) (hs : s.pts.length < 2 ^ 40) (hq : if (s.ok && (decide (0 ≤ k) && decide (k ≤ 1000))) = true then Q (.tup [strOut h.length true (stepN k.toNat s), .b true]) (h ++ strBlk (stepN k.toNat s)) else Q (.tup [.agg zeroCells, .b false]) h) : W Φ 9 [strAV (.sl r1 s.pts.length c1 g1) (.sl r2 s.bef.length c2 g2) (.sl r3 s.fixed.length c3 g3) (.sl r4 s.lens.length c4 g4) s, i64 k] h Q := by
  refine W.freshL (F := F9) rfl ?_
  refine EvC.seq ?_
  refine EvC.reg ?_
  refine EvOps.boxL rfl rfl rfl rfl rfl ?_
  refine EvOps.allocL rfl rfl ?_
  refine EvOps.step (n := 0) rfl ?_
  refine EvOps.nil ?_
  simp only [KP, KH, KC, ↓reduceIte, Nat.reduceEqDiff, Nat.reduceAdd]
  refine EvC.seq ?_
  refine EvC.seq ?_
  refine EvC.reg ?_
  first | refine EvOps.ldnL rfl rfl rfl ?_ | refine EvOps.ldnLm rfl rfl rfl (by simp only [List.length_set, S2_len]) ?_ | refine EvOps.ldnH rfl rfl (by assumption) ?_
  refine EvOps.call rfl rfl ?_
  refine w10 hs ?_
  refine EvOps.step (n := 0) rfl ?_
  refine EvOps.stepB (n := 0) rfl (fun hc => ?_) (fun hc => ?_)
  · first
     | cases hc; done
     | refine EvOps.step (n := 0) rfl ?_
       first
        | (refine EvOps.call rfl rfl ?_; refine w26 ?_)
        | refine EvOps.step (n := 0) rfl ?_
       refine EvOps.step (n := 0) rfl ?_
       refine EvOps.step (n := 0) rfl ?_
       refine EvOps.nil ?_
       simp only [KP, KH, KC, ↓reduceIte, Nat.reduceEqDiff, Nat.reduceAdd]
       refine EvC.condY rfl ?_
       refine EvC.seq ?_
       refine EvC.reg ?_
       refine EvOps.step (n := 0) rfl ?_
       first | refine EvOps.stL rfl rfl rfl rfl ?_ | refine EvOps.stLm rfl rfl rfl rfl (by simp only [List.length_set, S2_len]) ?_ | refine EvOps.stH rfl rfl rfl (by assumption) ?_
       refine EvOps.step (n := 0) rfl ?_
       refine EvOps.nil ?_
       simp only [KP, KH, KC, ↓reduceIte, Nat.reduceEqDiff, Nat.reduceAdd]
       refine EvC.ret ?_
       refine Res.finR (show resVals _ _ [.cells 4 9, .tmp 5] = _ from by simp only [resVals, ARes.val, Env.get, rdn_new, rd_new, ↓reduceIte, Nat.reduceEqDiff]; rfl) ?_
       first
         | (rw [if_neg (by first | (simp_all; done) | (simp_all; omega))] at hq; exact ⟨List.prefix_append _ _, Neat.no (by rfl) (Chg.refl h) hq⟩)
         | (have hil : i = k.toNat := (by simp at hc; omega)
            subst hil
            rw [if_pos (by simp_all)] at hq
            refine ⟨List.prefix_append _ _, Neat.new [(2, fl cV (stepN k.toNat s).pts), (2 + 1, fl cV (stepN k.toNat s).bef), (2 + 2, fl cB (stepN k.toNat s).fixed), (2 + 3, fl cF (stepN k.toNat s).lens)] (Chg.refl h) (by simp [AV.refs, refsL, pack, if_new, Nat.add_assoc]) (by simp) (by simp [fl_lim, stepN_fixed, stepN_lens]) ?_⟩
            simp [AV.ren, renL, reno_new, reno_new0, pack, List.idxOf_cons, grOf, beq_add1, beq_add2, beq_add3, Nat.add_assoc]
            rw [show strOut h.length true (stepN k.toNat s) = strOut h.length true s from congrArg AV.agg (strCells_stepN h.length true s k.toNat)] at hq
            exact hq)
  · first
     | cases hc; done
     | refine EvOps.step (n := 0) rfl ?_
       first
        | (refine EvOps.call rfl rfl ?_; refine w26 ?_)
        | refine EvOps.step (n := 0) rfl ?_
       refine EvOps.step (n := 0) rfl ?_
       refine EvOps.step (n := 0) rfl ?_
       refine EvOps.nil ?_
       simp only [KP, KH, KC, ↓reduceIte, Nat.reduceEqDiff, Nat.reduceAdd]
       refine EvC.condS rfl (fun hc => ?_) (fun hc => ?_)
       · first
          | cases hc; done
          | refine EvC.seq ?_
            refine EvC.reg ?_
            refine EvOps.step (n := 0) rfl ?_
            first | refine EvOps.stL rfl rfl rfl rfl ?_ | refine EvOps.stLm rfl rfl rfl rfl (by simp only [List.length_set, S2_len]) ?_ | refine EvOps.stH rfl rfl rfl (by assumption) ?_
            refine EvOps.step (n := 0) rfl ?_
            refine EvOps.nil ?_
            simp only [KP, KH, KC, ↓reduceIte, Nat.reduceEqDiff, Nat.reduceAdd]
            refine EvC.ret ?_
            refine Res.finR (show resVals _ _ [.cells 4 9, .tmp 5] = _ from by simp only [resVals, ARes.val, Env.get, rdn_new, rd_new, ↓reduceIte, Nat.reduceEqDiff]; rfl) ?_
            first
              | (rw [if_neg (by first | (simp_all; done) | (simp_all; omega))] at hq; exact ⟨List.prefix_append _ _, Neat.no (by rfl) (Chg.refl h) hq⟩)
              | (have hil : i = k.toNat := (by simp at hc; omega)
                 subst hil
                 rw [if_pos (by simp_all)] at hq
                 refine ⟨List.prefix_append _ _, Neat.new [(2, fl cV (stepN k.toNat s).pts), (2 + 1, fl cV (stepN k.toNat s).bef), (2 + 2, fl cB (stepN k.toNat s).fixed), (2 + 3, fl cF (stepN k.toNat s).lens)] (Chg.refl h) (by simp [AV.refs, refsL, pack, if_new, Nat.add_assoc]) (by simp) (by simp [fl_lim, stepN_fixed, stepN_lens]) ?_⟩
                 simp [AV.ren, renL, reno_new, reno_new0, pack, List.idxOf_cons, grOf, beq_add1, beq_add2, beq_add3, Nat.add_assoc]
                 rw [show strOut h.length true (stepN k.toNat s) = strOut h.length true s from congrArg AV.agg (strCells_stepN h.length true s k.toNat)] at hq
                 exact hq)
       · first
          | cases hc; done
          | refine EvC.skip ?_
            refine EvC.seq ?_
            refine EvC.reg ?_
            first | refine EvOps.ldnL rfl rfl rfl ?_ | refine EvOps.ldnLm rfl rfl rfl (by simp only [List.length_set, S2_len]) ?_ | refine EvOps.ldnH rfl rfl (by assumption) ?_
            refine EvOps.call rfl rfl ?_
            have ok : s.Ok := (Str.ok_iff s).1 (by simp_all)
            refine w27 (StrV.app _ a) ok ?_
            simp only [List.append_assoc, List.cons_append, List.nil_append, List.length_append, List.length_cons, List.length_nil, Nat.zero_add, Nat.reduceAdd]
            first | refine EvOps.stL rfl rfl rfl rfl ?_ | refine EvOps.stLm rfl rfl rfl rfl (by simp only [List.length_set, S2_len]) ?_ | refine EvOps.stH rfl rfl rfl (by assumption) ?_
            refine EvOps.nil ?_
            simp only [KP, KH, KC, ↓reduceIte, Nat.reduceEqDiff, Nat.reduceAdd]
            refine EvC.seq ?_
            refine EvC.seq ?_
            refine EvC.reg ?_
            refine EvOps.step (n := 0) rfl ?_
            refine EvOps.step (n := 0) rfl ?_
            refine EvOps.nil ?_
            simp only [KP, KH, KC, ↓reduceIte, Nat.reduceEqDiff, Nat.reduceAdd]
            refine EvC.block ?_
            have hkk : 0 ≤ k ∧ k ≤ 1000 := by
              have := hc; simp at this; exact this
            refine EvC.loop (fun c e hh => ∃ (i : Nat), c = k.toNat - i ∧ i ≤ k.toNat ∧ hh = h ++ [⟨strCells (h.length + 2) true s, .own⟩, ⟨zeroCells, .own⟩, ⟨fl cV (stepN i s).pts, .own⟩, ⟨fl cV (stepN i s).bef, .own⟩, ⟨fl cB s.fixed, .own⟩, ⟨fl cF s.lens, .own⟩] ∧ e = [(2, .p (some ⟨h.length + 0, 0⟩)), (4, .p (some ⟨h.length + 1, 0⟩)), (5, .b false), (17, i64 k), (18, i64 i)]) (k := k.toNat) ⟨0, by simp, by simp, rfl, rfl⟩ ?_
            rintro c e hh ⟨i, rfl, hi, rfl, rfl⟩
            refine EvC.seq ?_
            refine EvC.reg ?_
            refine EvOps.step (n := 0) rfl ?_
            refine EvOps.nil ?_
            simp only [KP, KH, KC, ↓reduceIte, Nat.reduceEqDiff, Nat.reduceAdd]
            refine EvC.seq ?_
            refine EvC.condS rfl (fun hc => ?_) (fun hc => ?_)
            · first
               | cases hc; done
               | refine EvC.skip ?_
                 refine EvC.seq ?_
                 refine EvC.block ?_
                 refine EvC.reg ?_
                 refine EvOps.call rfl rfl ?_
                 have hsI : (h ++ [⟨strCells (h.length + 2) true s, .own⟩, ⟨zeroCells, .own⟩, ⟨fl cV (stepN i s).pts, .own⟩, ⟨fl cV (stepN i s).bef, .own⟩, ⟨fl cB s.fixed, .own⟩, ⟨fl cF s.lens, .own⟩])[h.length]? = some ⟨strCells (h.length + 2) true (stepN i s), .own⟩ := by rw [strCells_stepN, ← Nat.add_zero h.length, get_new]; rfl
                 have AI : StrAt (h ++ [⟨strCells (h.length + 2) true s, .own⟩, ⟨zeroCells, .own⟩, ⟨fl cV (stepN i s).pts, .own⟩, ⟨fl cV (stepN i s).bef, .own⟩, ⟨fl cB s.fixed, .own⟩, ⟨fl cF s.lens, .own⟩]) (h.length + 2) (stepN i s) := ⟨by rw [get_new]; rfl, by rw [Nat.add_assoc, get_new]; rfl, by rw [Nat.add_assoc, get_new, stepN_fixed]; rfl, by rw [Nat.add_assoc, get_new, stepN_lens]; rfl⟩
                 refine w28 (n := h.length + 2) (s := stepN i s) hsI AI ⟨by omega, by omega⟩ (Str.Ok.stepN ok i) ?_
                 rw [S2_new]
                 simp only [List.set_cons_zero, List.set_cons_succ]
                 refine EvOps.nil ?_
                 simp only [KP, KH, KC, ↓reduceIte, Nat.reduceEqDiff, Nat.reduceAdd]
                 refine EvC.reg ?_
                 first | refine EvOps.addI rfl rfl (by omega) ?_ | refine EvOps.step (n := 0) rfl ?_
                 refine EvOps.step (n := 0) rfl ?_
                 refine EvOps.nil ?_
                 simp only [KP, KH, KC, ↓reduceIte, Nat.reduceEqDiff, Nat.reduceAdd]
                 exact ⟨k.toNat - (i + 1), by simp at hc; omega, i + 1, (by first | rfl | trivial), by simp at hc; omega, (by first | rfl | trivial), (by first | rfl | trivial)⟩
            · first
               | cases hc; done
               | refine EvC.exit ?_
                 refine EvC.seq ?_
                 refine EvC.reg ?_
                 first | refine EvOps.ldnL rfl rfl rfl ?_ | refine EvOps.ldnLm rfl rfl rfl (by simp only [List.length_set, S2_len]) ?_ | refine EvOps.ldnH rfl rfl (by assumption) ?_
                 first | refine EvOps.stL rfl rfl rfl rfl ?_ | refine EvOps.stLm rfl rfl rfl rfl (by simp only [List.length_set, S2_len]) ?_ | refine EvOps.stH rfl rfl rfl (by assumption) ?_
                 refine EvOps.step (n := 0) rfl ?_
                 refine EvOps.nil ?_
                 simp only [KP, KH, KC, ↓reduceIte, Nat.reduceEqDiff, Nat.reduceAdd]
                 refine EvC.ret ?_
                 refine Res.finR (show resVals _ _ [.cells 4 9, .tmp 5] = _ from by simp only [resVals, ARes.val, Env.get, rdn_new, rd_new, ↓reduceIte, Nat.reduceEqDiff]; rfl) ?_
                 first
                   | (rw [if_neg (by first | (simp_all; done) | (simp_all; omega))] at hq; exact ⟨List.prefix_append _ _, Neat.no (by rfl) (Chg.refl h) hq⟩)
                   | (have hil : i = k.toNat := (by simp at hc; omega)
                      subst hil
                      rw [if_pos (by simp_all)] at hq
                      refine ⟨List.prefix_append _ _, Neat.new [(2, fl cV (stepN k.toNat s).pts), (2 + 1, fl cV (stepN k.toNat s).bef), (2 + 2, fl cB (stepN k.toNat s).fixed), (2 + 3, fl cF (stepN k.toNat s).lens)] (Chg.refl h) (by simp [AV.refs, refsL, pack, if_new, Nat.add_assoc]) (by simp) (by simp [fl_lim, stepN_fixed, stepN_lens]) ?_⟩
                      simp [AV.ren, renL, reno_new, reno_new0, pack, List.idxOf_cons, grOf, beq_add1, beq_add2, beq_add3, Nat.add_assoc]
                      rw [show strOut h.length true (stepN k.toNat s) = strOut h.length true s from congrArg AV.agg (strCells_stepN h.length true s k.toNat)] at hq
                      exact hq)
end
end Go.V.Try
