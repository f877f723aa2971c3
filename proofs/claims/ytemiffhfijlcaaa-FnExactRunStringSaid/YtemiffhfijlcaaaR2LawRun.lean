import Derived.Test.YtemiffhfijlcaaaR2Run3
import Derived.Test.YtemiffhfijlcaaaR2Mark2
set_option linter.unusedSimpArgs false
set_option linter.unusedVariables false
set_option linter.unusedSectionVars false
/-! The law on steps. -/
namespace Go.V.Try
open Go Go.V
section
variable {h : H} {Q : AV → H → Prop}
/-- laws.FnExactRunString -/
theorem w5T {r1 r2 r3 r4 : Option Ref} {c1 c2 c3 c4 : Nat} {g1 g2 g3 g4 : Option Nat} {s : Str} {k : Int} (a : StrV h (.sl r1 s.pts.length c1 g1) (.sl r2 s.bef.length c2 g2) (.sl r3 s.fixed.length c3 g3) (.sl r4 s.lens.length c4 g4) s) (hn : s.pts.length < 2 ^ 63 ∧ s.bef.length < 2 ^ 63 ∧ s.fixed.length < 2 ^ 63 ∧ s.lens.length < 2 ^ 63) (hok : s.ok = true ∧ 0 ≤ k ∧ k ≤ 1000) (hq : ∀ h', Q (.b true) h') : W Φ 5 [strAV (.sl r1 s.pts.length c1 g1) (.sl r2 s.bef.length c2 g2) (.sl r3 s.fixed.length c3 g3) (.sl r4 s.lens.length c4 g4) s, i64 k] h Q := by
  refine W.fullL (F := F5) rfl ?_
  refine EvC.seq ?_
  refine EvC.reg ?_
  refine EvOps.boxL rfl rfl rfl rfl rfl ?_
  refine EvOps.step (n := 0) rfl ?_
  refine EvOps.nil ?_
  simp only [KP, KH, KC, ↓reduceIte, Nat.reduceEqDiff, Nat.reduceAdd]
  refine EvC.seq ?_
  refine EvC.reg ?_
  refine EvOps.step (n := 0) rfl ?_
  refine EvOps.nil ?_
  simp only [KP, KH, KC, ↓reduceIte, Nat.reduceEqDiff, Nat.reduceAdd]
  refine EvC.seq ?_
  refine EvC.reg ?_
  first | refine EvOps.ldnL rfl rfl rfl ?_ | refine EvOps.ldnLm rfl rfl rfl (by simp only [List.length_set, S2_len]) ?_ | refine EvOps.ldnH rfl rfl (by assumption) ?_
  refine EvOps.step (n := 0) rfl ?_
  refine EvOps.call rfl rfl ?_
  refine w17 hn (by omega) (fun r hr => ?_)
  refine EvOps.step (n := 0) rfl ?_
  refine EvOps.nil ?_
  simp only [KP, KH, KC, ↓reduceIte, Nat.reduceEqDiff, Nat.reduceAdd]
  refine EvC.seq ?_
  refine EvC.seq ?_
  refine EvC.reg ?_
  refine EvOps.step (n := 0) rfl ?_
  refine EvOps.step (n := 0) rfl ?_
  refine EvOps.nil ?_
  simp only [KP, KH, KC, ↓reduceIte, Nat.reduceEqDiff, Nat.reduceAdd]
  refine EvC.condS rfl (fun hc => ?_) (fun hc => ?_)
  · first
     | cases hc; done
     | refine EvC.seq ?_
       refine EvC.reg ?_
       refine EvOps.step (n := 0) rfl ?_
       refine EvOps.nil ?_
       simp only [KP, KH, KC, ↓reduceIte, Nat.reduceEqDiff, Nat.reduceAdd]
       refine EvC.ret ?_
       refine Res.finR rfl ?_
       first | exact hq _ | (exfalso; simp at hc; done) | (exfalso; simp at hc; omega)
  · first
     | cases hc; done
     | refine EvC.skip ?_
       refine EvC.seq ?_
       refine EvC.reg ?_
       first | refine EvOps.ldnL rfl rfl rfl ?_ | refine EvOps.ldnLm rfl rfl rfl (by simp only [List.length_set, S2_len]) ?_ | refine EvOps.ldnH rfl rfl (by assumption) ?_
       refine EvOps.call rfl rfl ?_
       simp only [decide_eq_false_iff_not] at hc
       have hsm : s.small := ⟨by omega, by omega, by omega, by omega⟩
       have hsm2 : (stepN k.toNat s).small := ⟨by rw [stepN_pts_len]; omega, by rw [stepN_bef_len]; omega, by rw [stepN_fixed]; omega, by rw [stepN_lens]; omega⟩
       have hsl : s.pts.length < 2 ^ 40 := hsm.1
       have hkk : k4 (stepN k.toNat s) 1 < 2 ^ 49 ∧ 0 ≤ k4 (stepN k.toNat s) 1 := ⟨by unfold Str.small at hsm2; dsimp only [k4, k3, k2, k1]; omega, by dsimp only [k4, k3, k2, k1]; omega⟩
       have hkm : 0 ≤ k4 s 1 := by dsimp only [k4, k3, k2, k1]; omega
       refine w19 (s := s) (StrV.app _ a) hsm ?_
       try simp only [List.append_assoc, List.cons_append, List.nil_append, List.length_append, List.length_cons, List.length_nil, Nat.zero_add, Nat.reduceAdd]
       refine EvOps.step (n := 0) rfl ?_
       refine EvOps.call rfl rfl ?_
       refine w23T (s := s) (StrAt.v (n := h.length + 1) (s := s) ⟨by rw [get_new]; rfl, by rw [Nat.add_assoc, get_new]; rfl, by rw [Nat.add_assoc, get_new]; rfl, by rw [Nat.add_assoc, get_new]; rfl⟩ false) hsl hok ?_
       try simp only [List.append_assoc, List.cons_append, List.nil_append, List.length_append, List.length_cons, List.length_nil, Nat.zero_add, Nat.reduceAdd]
       refine EvOps.step (n := 0) rfl ?_
       refine EvOps.step (n := 0) rfl ?_
       refine EvOps.step (n := 0) rfl ?_
       refine EvOps.allocL rfl rfl ?_
       first | refine EvOps.stL rfl rfl rfl rfl ?_ | refine EvOps.stLm rfl rfl rfl rfl (by simp only [List.length_set, S2_len]) ?_ | refine EvOps.stH rfl rfl rfl (by assumption) ?_
       refine EvOps.step (n := 0) rfl ?_
       refine EvOps.nil ?_
       simp only [KP, KH, KC, ↓reduceIte, Nat.reduceEqDiff, Nat.reduceAdd]
       refine EvC.seq ?_
       refine EvC.reg ?_
       first | refine EvOps.ldnL rfl rfl rfl ?_ | refine EvOps.ldnLm rfl rfl rfl (by simp only [List.length_set, S2_len]) ?_ | refine EvOps.ldnH rfl rfl (by assumption) ?_
       refine EvOps.call rfl rfl ?_
       refine w19 (s := s) (StrV.app _ a) hsm ?_
       try simp only [List.append_assoc, List.cons_append, List.nil_append, List.length_append, List.length_cons, List.length_nil, Nat.zero_add, Nat.reduceAdd]
       refine EvOps.allocL rfl rfl ?_
       first | refine EvOps.stL rfl rfl rfl rfl ?_ | refine EvOps.stLm rfl rfl rfl rfl (by simp only [List.length_set, S2_len]) ?_ | refine EvOps.stH rfl rfl rfl (by assumption) ?_
       refine EvOps.nil ?_
       simp only [KP, KH, KC, ↓reduceIte, Nat.reduceEqDiff, Nat.reduceAdd]
       refine EvC.seq ?_
       refine EvC.reg ?_
       first | refine EvOps.ldnL rfl rfl rfl ?_ | refine EvOps.ldnLm rfl rfl rfl (by simp only [List.length_set, S2_len]) ?_ | refine EvOps.ldnH rfl rfl (by assumption) ?_
       refine EvOps.step (n := 0) rfl ?_
       refine EvOps.call rfl rfl ?_
       refine w9T (s := s) (StrAt.v (n := h.length + 10) (s := s) ⟨by rw [get_new]; rfl, by rw [Nat.add_assoc, get_new]; rfl, by rw [Nat.add_assoc, get_new]; rfl, by rw [Nat.add_assoc, get_new]; rfl⟩ false) hsl hok ?_
       try simp only [List.append_assoc, List.cons_append, List.nil_append, List.length_append, List.length_cons, List.length_nil, Nat.zero_add, Nat.reduceAdd]
       refine EvOps.step (n := 0) rfl ?_
       refine EvOps.step (n := 0) rfl ?_
       refine EvOps.step (n := 0) rfl ?_
       refine EvOps.allocL rfl rfl ?_
       first | refine EvOps.stL rfl rfl rfl rfl ?_ | refine EvOps.stLm rfl rfl rfl rfl (by simp only [List.length_set, S2_len]) ?_ | refine EvOps.stH rfl rfl rfl (by assumption) ?_
       refine EvOps.step (n := 0) rfl ?_
       refine EvOps.nil ?_
       simp only [KP, KH, KC, ↓reduceIte, Nat.reduceEqDiff, Nat.reduceAdd]
       refine EvC.seq ?_
       refine EvC.seq ?_
       refine EvC.reg ?_
       first | refine EvOps.ldnL rfl rfl rfl ?_ | refine EvOps.ldnLm rfl rfl rfl (by simp only [List.length_set, S2_len]) ?_ | refine EvOps.ldnH rfl rfl (by assumption) ?_
       first | refine EvOps.ldnL rfl rfl rfl ?_ | refine EvOps.ldnLm rfl rfl rfl (by simp only [List.length_set, S2_len]) ?_ | refine EvOps.ldnH rfl rfl (by assumption) ?_
       refine EvOps.call rfl rfl ?_
       refine w20 (s := (stepN k.toNat s)) (StrAt.v (n := h.length + 15) (s := (stepN k.toNat s)) ⟨by rw [get_new]; rfl, by rw [Nat.add_assoc, get_new]; rfl, by rw [Nat.add_assoc, get_new]; rfl, by rw [Nat.add_assoc, get_new]; rfl⟩ true) (StrAt.v (n := h.length + 5) (s := (stepN k.toNat s)) ⟨by rw [get_new]; rfl, by rw [Nat.add_assoc, get_new]; rfl, by rw [Nat.add_assoc, get_new]; rfl, by rw [Nat.add_assoc, get_new]; rfl⟩ true) hsm2 ?_
       refine EvOps.step (n := 0) rfl ?_
       refine EvOps.step (n := 0) rfl ?_
       refine EvOps.step (n := 0) rfl ?_
       refine EvOps.step (n := 0) rfl ?_
       refine EvOps.step (n := 0) rfl ?_
       refine EvOps.step (n := 0) rfl ?_
       refine EvOps.nil ?_
       simp only [KP, KH, KC, ↓reduceIte, Nat.reduceEqDiff, Nat.reduceAdd]
       refine EvC.condN rfl ?_
       refine EvC.skip ?_
       refine EvC.seq ?_
       refine EvC.seq ?_
       refine EvC.drw rfl ?_
       first | refine EvOps.ldnL rfl rfl rfl ?_ | refine EvOps.ldnLm rfl rfl rfl (by simp only [List.length_set, S2_len]) ?_ | refine EvOps.ldnH rfl rfl (by assumption) ?_
       first | refine EvOps.ldnL rfl rfl rfl ?_ | refine EvOps.ldnLm rfl rfl rfl (by simp only [List.length_set, S2_len]) ?_ | refine EvOps.ldnH rfl rfl (by assumption) ?_
       refine EvOps.call rfl rfl ?_
       refine w19 (s := s) (StrV.app _ a) hsm ?_
       try simp only [List.append_assoc, List.cons_append, List.nil_append, List.length_append, List.length_cons, List.length_nil, Nat.zero_add, Nat.reduceAdd]
       refine EvOps.call rfl rfl ?_
       refine w20 (s := s) (StrAt.v (n := h.length + 10) (s := s) ⟨by rw [get_new]; rfl, by rw [Nat.add_assoc, get_new]; rfl, by rw [Nat.add_assoc, get_new]; rfl, by rw [Nat.add_assoc, get_new]; rfl⟩ false) (StrAt.v (n := h.length + 20) (s := s) ⟨by rw [get_new]; rfl, by rw [Nat.add_assoc, get_new]; rfl, by rw [Nat.add_assoc, get_new]; rfl, by rw [Nat.add_assoc, get_new]; rfl⟩ false) hsm ?_
       refine EvOps.step (n := 0) rfl ?_
       refine EvOps.nil ?_
       simp only [KP, KH, KC, ↓reduceIte, Nat.reduceEqDiff, Nat.reduceAdd]
       refine EvC.condN rfl ?_
       refine EvC.skip ?_
       refine EvC.seq ?_
       refine EvC.reg ?_
       refine EvOps.step (n := 0) rfl ?_
       refine EvOps.nil ?_
       simp only [KP, KH, KC, ↓reduceIte, Nat.reduceEqDiff, Nat.reduceAdd]
       refine EvC.seq ?_
       refine EvC.reg ?_
       first | refine EvOps.ldnL rfl rfl rfl ?_ | refine EvOps.ldnLm rfl rfl rfl (by simp only [List.length_set, S2_len]) ?_ | refine EvOps.ldnH rfl rfl (by assumption) ?_
       refine EvOps.step (n := 0) rfl ?_
       refine EvOps.call rfl rfl ?_
       refine w21 (n := h.length + 10) (g := false) (s := s) (k := 1) ⟨by rw [get_new]; rfl, by rw [Nat.add_assoc, get_new]; rfl, by rw [Nat.add_assoc, get_new]; rfl, by rw [Nat.add_assoc, get_new]; rfl⟩ hsm (by decide) ?_
       rw [marked_new]
       simp only [List.set_cons_zero, List.set_cons_succ, Nat.reduceAdd]
       refine EvOps.step (n := 0) rfl ?_
       refine EvOps.nil ?_
       simp only [KP, KH, KC, ↓reduceIte, Nat.reduceEqDiff, Nat.reduceAdd]
       refine EvC.seq ?_
       refine EvC.seq ?_
       refine EvC.reg ?_
       refine EvOps.step (n := 0) rfl ?_
       refine EvOps.step (n := 0) rfl ?_
       refine EvOps.stepB (n := 0) rfl (fun hc => ?_) (fun hc => ?_)
       · first
          | cases hc; done
          | first | refine EvOps.ldnL rfl rfl rfl ?_ | refine EvOps.ldnLm rfl rfl rfl (by simp only [List.length_set, S2_len]) ?_ | refine EvOps.ldnH rfl rfl (by assumption) ?_ | refine EvOps.step (n := 0) rfl ?_
            first | refine EvOps.ldnL rfl rfl rfl ?_ | refine EvOps.ldnLm rfl rfl rfl (by simp only [List.length_set, S2_len]) ?_ | refine EvOps.ldnH rfl rfl (by assumption) ?_ | refine EvOps.step (n := 0) rfl ?_
            first
             | (refine EvOps.call rfl rfl ?_; refine w20 (s := (stepN k.toNat s)) (StrAt.v (n := h.length + 15) (s := (stepN k.toNat s)) ⟨by rw [get_new]; rfl, by rw [Nat.add_assoc, get_new]; rfl, by rw [Nat.add_assoc, get_new]; rfl, by rw [Nat.add_assoc, get_new]; rfl⟩ true) (StrAt.v (n := h.length + 5) (s := (stepN k.toNat s)) ⟨by rw [get_new]; rfl, by rw [Nat.add_assoc, get_new]; rfl, by rw [Nat.add_assoc, get_new]; rfl, by rw [Nat.add_assoc, get_new]; rfl⟩ true) hsm2 ?_)
             | refine EvOps.step (n := 0) rfl ?_
            refine EvOps.step (n := 0) rfl ?_
            refine EvOps.step (n := 0) rfl ?_
            refine EvOps.step (n := 0) rfl ?_
            refine EvOps.step (n := 0) rfl ?_
            refine EvOps.step (n := 0) rfl ?_
            refine EvOps.step (n := 0) rfl ?_
            refine EvOps.step (n := 0) rfl ?_
            refine EvOps.nil ?_
            simp only [KP, KH, KC, ↓reduceIte, Nat.reduceEqDiff, Nat.reduceAdd]
            refine EvC.condN rfl ?_
            refine EvC.skip ?_
            refine EvC.seq ?_
            refine EvC.reg ?_
            refine EvOps.step (n := 0) rfl ?_
            refine EvOps.nil ?_
            simp only [KP, KH, KC, ↓reduceIte, Nat.reduceEqDiff, Nat.reduceAdd]
            refine EvC.seq ?_
            refine EvC.reg ?_
            first | refine EvOps.ldnL rfl rfl rfl ?_ | refine EvOps.ldnLm rfl rfl rfl (by simp only [List.length_set, S2_len]) ?_ | refine EvOps.ldnH rfl rfl (by assumption) ?_
            refine EvOps.step (n := 0) rfl ?_
            refine EvOps.call rfl rfl ?_
            refine w21 (n := h.length + 15) (g := true) (s := (stepN k.toNat s)) (k := 1) ⟨by rw [get_new]; rfl, by rw [Nat.add_assoc, get_new]; rfl, by rw [Nat.add_assoc, get_new]; rfl, by rw [Nat.add_assoc, get_new]; rfl⟩ hsm2 (by decide) ?_
            rw [marked_new]
            simp only [List.set_cons_zero, List.set_cons_succ, Nat.reduceAdd]
            refine EvOps.step (n := 0) rfl ?_
            refine EvOps.nil ?_
            simp only [KP, KH, KC, ↓reduceIte, Nat.reduceEqDiff, Nat.reduceAdd]
            refine EvC.seq ?_
            refine EvC.reg ?_
            refine EvOps.step (n := 0) rfl ?_
            refine EvOps.nil ?_
            simp only [KP, KH, KC, ↓reduceIte, Nat.reduceEqDiff, Nat.reduceAdd]
            refine EvC.seq ?_
            refine EvC.reg ?_
            first | refine EvOps.ldnL rfl rfl rfl ?_ | refine EvOps.ldnLm rfl rfl rfl (by simp only [List.length_set, S2_len]) ?_ | refine EvOps.ldnH rfl rfl (by assumption) ?_
            refine EvOps.step (n := 0) rfl ?_
            refine EvOps.call rfl rfl ?_
            refine w22 (n := h.length + 15) (g := true) (s := (stepN k.toNat s)) (k := 1) ⟨by rw [get_new]; rfl, by rw [Nat.add_assoc, get_new]; rfl, by rw [Nat.add_assoc, get_new]; rfl, by rw [Nat.add_assoc, get_new]; rfl⟩ hsm2 (by decide) ?_
            refine EvOps.step (n := 0) rfl ?_
            refine EvOps.nil ?_
            simp only [KP, KH, KC, ↓reduceIte, Nat.reduceEqDiff, Nat.reduceAdd]
            refine EvC.seq ?_
            refine EvC.seq ?_
            refine EvC.reg ?_
            refine EvOps.step (n := 0) rfl ?_
            refine EvOps.step (n := 0) rfl ?_
            refine EvOps.nil ?_
            simp only [KP, KH, KC, ↓reduceIte, Nat.reduceEqDiff, Nat.reduceAdd]
            refine EvC.condS rfl (fun hc => ?_) (fun hc => ?_)
            · first
               | cases hc; done
               | refine EvC.seq ?_
                 refine EvC.reg ?_
                 refine EvOps.step (n := 0) rfl ?_
                 refine EvOps.nil ?_
                 simp only [KP, KH, KC, ↓reduceIte, Nat.reduceEqDiff, Nat.reduceAdd]
                 refine EvC.ret ?_
                 refine Res.finR rfl ?_
                 first | exact hq _ | (exfalso; simp at hc; done) | (exfalso; simp at hc; omega)
            · first
               | cases hc; done
               | refine EvC.skip ?_
                 refine EvC.seq ?_
                 refine EvC.seq ?_
                 refine EvC.reg ?_
                 refine EvOps.step (n := 0) rfl ?_
                 refine EvOps.step (n := 0) rfl ?_
                 refine EvOps.step (n := 0) rfl ?_
                 refine EvOps.nil ?_
                 simp only [KP, KH, KC, ↓reduceIte, Nat.reduceEqDiff, Nat.reduceAdd]
                 refine EvC.condS rfl (fun hc => ?_) (fun hc => ?_)
                 · first
                    | cases hc; done
                    | refine EvC.seq ?_
                      refine EvC.reg ?_
                      refine EvOps.step (n := 0) rfl ?_
                      refine EvOps.nil ?_
                      simp only [KP, KH, KC, ↓reduceIte, Nat.reduceEqDiff, Nat.reduceAdd]
                      refine EvC.ret ?_
                      refine Res.finR rfl ?_
                      first | exact hq _ | (exfalso; simp at hc; done) | (exfalso; simp at hc; omega)
                 · first
                    | cases hc; done
                    | refine EvC.skip ?_
                      refine EvC.seq ?_
                      refine EvC.reg ?_
                      first | refine EvOps.ldnL rfl rfl rfl ?_ | refine EvOps.ldnLm rfl rfl rfl (by simp only [List.length_set, S2_len]) ?_ | refine EvOps.ldnH rfl rfl (by assumption) ?_
                      refine EvOps.call rfl rfl ?_
                      refine w19 (s := s) (StrV.app _ a) hsm ?_
                      try simp only [List.append_assoc, List.cons_append, List.nil_append, List.length_append, List.length_cons, List.length_nil, Nat.zero_add, Nat.reduceAdd]
                      refine EvOps.step (n := 0) rfl ?_
                      refine EvOps.call rfl rfl ?_
                      refine w9T (s := s) (StrAt.v (n := h.length + 24) (s := s) ⟨by rw [get_new]; rfl, by rw [Nat.add_assoc, get_new]; rfl, by rw [Nat.add_assoc, get_new]; rfl, by rw [Nat.add_assoc, get_new]; rfl⟩ false) hsl hok ?_
                      try simp only [List.append_assoc, List.cons_append, List.nil_append, List.length_append, List.length_cons, List.length_nil, Nat.zero_add, Nat.reduceAdd]
                      refine EvOps.step (n := 0) rfl ?_
                      refine EvOps.step (n := 0) rfl ?_
                      refine EvOps.step (n := 0) rfl ?_
                      refine EvOps.allocL rfl rfl ?_
                      first | refine EvOps.stL rfl rfl rfl rfl ?_ | refine EvOps.stLm rfl rfl rfl rfl (by simp only [List.length_set, S2_len]) ?_ | refine EvOps.stH rfl rfl rfl (by assumption) ?_
                      refine EvOps.step (n := 0) rfl ?_
                      refine EvOps.nil ?_
                      simp only [KP, KH, KC, ↓reduceIte, Nat.reduceEqDiff, Nat.reduceAdd]
                      refine EvC.seq ?_
                      refine EvC.seq ?_
                      refine EvC.reg ?_
                      first | refine EvOps.ldnL rfl rfl rfl ?_ | refine EvOps.ldnLm rfl rfl rfl (by simp only [List.length_set, S2_len]) ?_ | refine EvOps.ldnH rfl rfl (by assumption) ?_
                      first | refine EvOps.ldnL rfl rfl rfl ?_ | refine EvOps.ldnLm rfl rfl rfl (by simp only [List.length_set, S2_len]) ?_ | refine EvOps.ldnH rfl rfl (by assumption) ?_
                      refine EvOps.call rfl rfl ?_
                      refine w20 (s := (stepN k.toNat s)) (StrAt.v (n := h.length + 28) (s := (stepN k.toNat s)) ⟨by rw [get_new]; rfl, by rw [Nat.add_assoc, get_new]; rfl, by rw [Nat.add_assoc, get_new]; rfl, by rw [Nat.add_assoc, get_new]; rfl⟩ true) (StrAt.v (n := h.length + 5) (s := (stepN k.toNat s)) ⟨by rw [get_new]; rfl, by rw [Nat.add_assoc, get_new]; rfl, by rw [Nat.add_assoc, get_new]; rfl, by rw [Nat.add_assoc, get_new]; rfl⟩ true) hsm2 ?_
                      refine EvOps.step (n := 0) rfl ?_
                      refine EvOps.step (n := 0) rfl ?_
                      refine EvOps.step (n := 0) rfl ?_
                      refine EvOps.step (n := 0) rfl ?_
                      refine EvOps.step (n := 0) rfl ?_
                      refine EvOps.step (n := 0) rfl ?_
                      refine EvOps.nil ?_
                      simp only [KP, KH, KC, ↓reduceIte, Nat.reduceEqDiff, Nat.reduceAdd]
                      refine EvC.condN rfl ?_
                      refine EvC.skip ?_
                      refine EvC.seq ?_
                      refine EvC.reg ?_
                      refine EvOps.step (n := 0) rfl ?_
                      refine EvOps.nil ?_
                      simp only [KP, KH, KC, ↓reduceIte, Nat.reduceEqDiff, Nat.reduceAdd]
                      refine EvC.seq ?_
                      refine EvC.reg ?_
                      first | refine EvOps.ldnL rfl rfl rfl ?_ | refine EvOps.ldnLm rfl rfl rfl (by simp only [List.length_set, S2_len]) ?_ | refine EvOps.ldnH rfl rfl (by assumption) ?_
                      refine EvOps.step (n := 0) rfl ?_
                      refine EvOps.call rfl rfl ?_
                      refine w22 (n := h.length + 15) (g := true) (s := (stepN k.toNat s)) (k := 1) ⟨by rw [get_new]; rfl, by rw [Nat.add_assoc, get_new]; rfl, by rw [Nat.add_assoc, get_new]; rfl, by rw [Nat.add_assoc, get_new]; rfl⟩ hsm2 (by decide) ?_
                      refine EvOps.step (n := 0) rfl ?_
                      refine EvOps.nil ?_
                      simp only [KP, KH, KC, ↓reduceIte, Nat.reduceEqDiff, Nat.reduceAdd]
                      refine EvC.seq ?_
                      refine EvC.seq ?_
                      refine EvC.reg ?_
                      refine EvOps.step (n := 0) rfl ?_
                      refine EvOps.step (n := 0) rfl ?_
                      refine EvOps.nil ?_
                      simp only [KP, KH, KC, ↓reduceIte, Nat.reduceEqDiff, Nat.reduceAdd]
                      refine EvC.condS rfl (fun hc => ?_) (fun hc => ?_)
                      · first
                         | cases hc; done
                         | refine EvC.seq ?_
                           refine EvC.reg ?_
                           refine EvOps.step (n := 0) rfl ?_
                           refine EvOps.nil ?_
                           simp only [KP, KH, KC, ↓reduceIte, Nat.reduceEqDiff, Nat.reduceAdd]
                           refine EvC.ret ?_
                           refine Res.finR rfl ?_
                           first | exact hq _ | (exfalso; simp at hc; done) | (exfalso; simp at hc; omega)
                      · first
                         | cases hc; done
                         | refine EvC.skip ?_
                           refine EvC.seq ?_
                           refine EvC.seq ?_
                           refine EvC.reg ?_
                           refine EvOps.step (n := 0) rfl ?_
                           refine EvOps.step (n := 0) rfl ?_
                           refine EvOps.step (n := 0) rfl ?_
                           refine EvOps.nil ?_
                           simp only [KP, KH, KC, ↓reduceIte, Nat.reduceEqDiff, Nat.reduceAdd]
                           refine EvC.condS rfl (fun hc => ?_) (fun hc => ?_)
                           · first
                              | cases hc; done
                              | refine EvC.seq ?_
                                refine EvC.reg ?_
                                refine EvOps.step (n := 0) rfl ?_
                                refine EvOps.nil ?_
                                simp only [KP, KH, KC, ↓reduceIte, Nat.reduceEqDiff, Nat.reduceAdd]
                                refine EvC.ret ?_
                                refine Res.finR rfl ?_
                                first | exact hq _ | (exfalso; simp at hc; done) | (exfalso; simp at hc; omega)
                           · first
                              | cases hc; done
                              | refine EvC.skip ?_
                                refine EvC.seq ?_
                                refine EvC.reg ?_
                                refine EvOps.step (n := 0) rfl ?_
                                refine EvOps.nil ?_
                                simp only [KP, KH, KC, ↓reduceIte, Nat.reduceEqDiff, Nat.reduceAdd]
                                refine EvC.ret ?_
                                refine Res.finR rfl ?_
                                first | exact hq _ | (exfalso; simp at hc; done) | (exfalso; simp at hc; omega)
       · first
          | cases hc; done
          | first | refine EvOps.ldnL rfl rfl rfl ?_ | refine EvOps.ldnLm rfl rfl rfl (by simp only [List.length_set, S2_len]) ?_ | refine EvOps.ldnH rfl rfl (by assumption) ?_ | refine EvOps.step (n := 0) rfl ?_
            first | refine EvOps.ldnL rfl rfl rfl ?_ | refine EvOps.ldnLm rfl rfl rfl (by simp only [List.length_set, S2_len]) ?_ | refine EvOps.ldnH rfl rfl (by assumption) ?_ | refine EvOps.step (n := 0) rfl ?_
            first
             | (refine EvOps.call rfl rfl ?_; refine w20 (s := (stepN k.toNat s)) (StrAt.v (n := h.length + 15) (s := (stepN k.toNat s)) ⟨by rw [get_new]; rfl, by rw [Nat.add_assoc, get_new]; rfl, by rw [Nat.add_assoc, get_new]; rfl, by rw [Nat.add_assoc, get_new]; rfl⟩ true) (StrAt.v (n := h.length + 5) (s := (stepN k.toNat s)) ⟨by rw [get_new]; rfl, by rw [Nat.add_assoc, get_new]; rfl, by rw [Nat.add_assoc, get_new]; rfl, by rw [Nat.add_assoc, get_new]; rfl⟩ true) hsm2 ?_)
             | refine EvOps.step (n := 0) rfl ?_
            refine EvOps.step (n := 0) rfl ?_
            refine EvOps.step (n := 0) rfl ?_
            refine EvOps.step (n := 0) rfl ?_
            refine EvOps.step (n := 0) rfl ?_
            refine EvOps.step (n := 0) rfl ?_
            refine EvOps.step (n := 0) rfl ?_
            refine EvOps.step (n := 0) rfl ?_
            refine EvOps.nil ?_
            simp only [KP, KH, KC, ↓reduceIte, Nat.reduceEqDiff, Nat.reduceAdd]
            refine EvC.condN rfl ?_
            refine EvC.skip ?_
            refine EvC.seq ?_
            refine EvC.reg ?_
            refine EvOps.step (n := 0) rfl ?_
            refine EvOps.nil ?_
            simp only [KP, KH, KC, ↓reduceIte, Nat.reduceEqDiff, Nat.reduceAdd]
            refine EvC.seq ?_
            refine EvC.reg ?_
            first | refine EvOps.ldnL rfl rfl rfl ?_ | refine EvOps.ldnLm rfl rfl rfl (by simp only [List.length_set, S2_len]) ?_ | refine EvOps.ldnH rfl rfl (by assumption) ?_
            refine EvOps.step (n := 0) rfl ?_
            refine EvOps.call rfl rfl ?_
            refine w21 (n := h.length + 15) (g := true) (s := (stepN k.toNat s)) (k := 1) ⟨by rw [get_new]; rfl, by rw [Nat.add_assoc, get_new]; rfl, by rw [Nat.add_assoc, get_new]; rfl, by rw [Nat.add_assoc, get_new]; rfl⟩ hsm2 (by decide) ?_
            rw [marked_new]
            simp only [List.set_cons_zero, List.set_cons_succ, Nat.reduceAdd]
            refine EvOps.step (n := 0) rfl ?_
            refine EvOps.nil ?_
            simp only [KP, KH, KC, ↓reduceIte, Nat.reduceEqDiff, Nat.reduceAdd]
            refine EvC.seq ?_
            refine EvC.reg ?_
            refine EvOps.step (n := 0) rfl ?_
            refine EvOps.nil ?_
            simp only [KP, KH, KC, ↓reduceIte, Nat.reduceEqDiff, Nat.reduceAdd]
            refine EvC.seq ?_
            refine EvC.reg ?_
            first | refine EvOps.ldnL rfl rfl rfl ?_ | refine EvOps.ldnLm rfl rfl rfl (by simp only [List.length_set, S2_len]) ?_ | refine EvOps.ldnH rfl rfl (by assumption) ?_
            refine EvOps.step (n := 0) rfl ?_
            refine EvOps.call rfl rfl ?_
            refine w22 (n := h.length + 15) (g := true) (s := (stepN k.toNat s)) (k := 1) ⟨by rw [get_new]; rfl, by rw [Nat.add_assoc, get_new]; rfl, by rw [Nat.add_assoc, get_new]; rfl, by rw [Nat.add_assoc, get_new]; rfl⟩ hsm2 (by decide) ?_
            refine EvOps.step (n := 0) rfl ?_
            refine EvOps.nil ?_
            simp only [KP, KH, KC, ↓reduceIte, Nat.reduceEqDiff, Nat.reduceAdd]
            refine EvC.seq ?_
            refine EvC.seq ?_
            refine EvC.reg ?_
            refine EvOps.step (n := 0) rfl ?_
            refine EvOps.step (n := 0) rfl ?_
            refine EvOps.nil ?_
            simp only [KP, KH, KC, ↓reduceIte, Nat.reduceEqDiff, Nat.reduceAdd]
            refine EvC.condS rfl (fun hc => ?_) (fun hc => ?_)
            · first
               | cases hc; done
               | refine EvC.seq ?_
                 refine EvC.reg ?_
                 refine EvOps.step (n := 0) rfl ?_
                 refine EvOps.nil ?_
                 simp only [KP, KH, KC, ↓reduceIte, Nat.reduceEqDiff, Nat.reduceAdd]
                 refine EvC.ret ?_
                 refine Res.finR rfl ?_
                 first | exact hq _ | (exfalso; simp at hc; done) | (exfalso; simp at hc; omega)
            · first
               | cases hc; done
               | refine EvC.skip ?_
                 refine EvC.seq ?_
                 refine EvC.seq ?_
                 refine EvC.reg ?_
                 refine EvOps.step (n := 0) rfl ?_
                 refine EvOps.step (n := 0) rfl ?_
                 refine EvOps.step (n := 0) rfl ?_
                 refine EvOps.nil ?_
                 simp only [KP, KH, KC, ↓reduceIte, Nat.reduceEqDiff, Nat.reduceAdd]
                 refine EvC.condS rfl (fun hc => ?_) (fun hc => ?_)
                 · first
                    | cases hc; done
                    | refine EvC.seq ?_
                      refine EvC.reg ?_
                      refine EvOps.step (n := 0) rfl ?_
                      refine EvOps.nil ?_
                      simp only [KP, KH, KC, ↓reduceIte, Nat.reduceEqDiff, Nat.reduceAdd]
                      refine EvC.ret ?_
                      refine Res.finR rfl ?_
                      first | exact hq _ | (exfalso; simp at hc; done) | (exfalso; simp at hc; omega)
                 · first
                    | cases hc; done
                    | refine EvC.skip ?_
                      refine EvC.seq ?_
                      refine EvC.reg ?_
                      first | refine EvOps.ldnL rfl rfl rfl ?_ | refine EvOps.ldnLm rfl rfl rfl (by simp only [List.length_set, S2_len]) ?_ | refine EvOps.ldnH rfl rfl (by assumption) ?_
                      refine EvOps.call rfl rfl ?_
                      refine w19 (s := s) (StrV.app _ a) hsm ?_
                      try simp only [List.append_assoc, List.cons_append, List.nil_append, List.length_append, List.length_cons, List.length_nil, Nat.zero_add, Nat.reduceAdd]
                      refine EvOps.step (n := 0) rfl ?_
                      refine EvOps.call rfl rfl ?_
                      refine w9T (s := s) (StrAt.v (n := h.length + 24) (s := s) ⟨by rw [get_new]; rfl, by rw [Nat.add_assoc, get_new]; rfl, by rw [Nat.add_assoc, get_new]; rfl, by rw [Nat.add_assoc, get_new]; rfl⟩ false) hsl hok ?_
                      try simp only [List.append_assoc, List.cons_append, List.nil_append, List.length_append, List.length_cons, List.length_nil, Nat.zero_add, Nat.reduceAdd]
                      refine EvOps.step (n := 0) rfl ?_
                      refine EvOps.step (n := 0) rfl ?_
                      refine EvOps.step (n := 0) rfl ?_
                      refine EvOps.allocL rfl rfl ?_
                      first | refine EvOps.stL rfl rfl rfl rfl ?_ | refine EvOps.stLm rfl rfl rfl rfl (by simp only [List.length_set, S2_len]) ?_ | refine EvOps.stH rfl rfl rfl (by assumption) ?_
                      refine EvOps.step (n := 0) rfl ?_
                      refine EvOps.nil ?_
                      simp only [KP, KH, KC, ↓reduceIte, Nat.reduceEqDiff, Nat.reduceAdd]
                      refine EvC.seq ?_
                      refine EvC.seq ?_
                      refine EvC.reg ?_
                      first | refine EvOps.ldnL rfl rfl rfl ?_ | refine EvOps.ldnLm rfl rfl rfl (by simp only [List.length_set, S2_len]) ?_ | refine EvOps.ldnH rfl rfl (by assumption) ?_
                      first | refine EvOps.ldnL rfl rfl rfl ?_ | refine EvOps.ldnLm rfl rfl rfl (by simp only [List.length_set, S2_len]) ?_ | refine EvOps.ldnH rfl rfl (by assumption) ?_
                      refine EvOps.call rfl rfl ?_
                      refine w20 (s := (stepN k.toNat s)) (StrAt.v (n := h.length + 28) (s := (stepN k.toNat s)) ⟨by rw [get_new]; rfl, by rw [Nat.add_assoc, get_new]; rfl, by rw [Nat.add_assoc, get_new]; rfl, by rw [Nat.add_assoc, get_new]; rfl⟩ true) (StrAt.v (n := h.length + 5) (s := (stepN k.toNat s)) ⟨by rw [get_new]; rfl, by rw [Nat.add_assoc, get_new]; rfl, by rw [Nat.add_assoc, get_new]; rfl, by rw [Nat.add_assoc, get_new]; rfl⟩ true) hsm2 ?_
                      refine EvOps.step (n := 0) rfl ?_
                      refine EvOps.step (n := 0) rfl ?_
                      refine EvOps.step (n := 0) rfl ?_
                      refine EvOps.step (n := 0) rfl ?_
                      refine EvOps.step (n := 0) rfl ?_
                      refine EvOps.step (n := 0) rfl ?_
                      refine EvOps.nil ?_
                      simp only [KP, KH, KC, ↓reduceIte, Nat.reduceEqDiff, Nat.reduceAdd]
                      refine EvC.condN rfl ?_
                      refine EvC.skip ?_
                      refine EvC.seq ?_
                      refine EvC.reg ?_
                      refine EvOps.step (n := 0) rfl ?_
                      refine EvOps.nil ?_
                      simp only [KP, KH, KC, ↓reduceIte, Nat.reduceEqDiff, Nat.reduceAdd]
                      refine EvC.seq ?_
                      refine EvC.reg ?_
                      first | refine EvOps.ldnL rfl rfl rfl ?_ | refine EvOps.ldnLm rfl rfl rfl (by simp only [List.length_set, S2_len]) ?_ | refine EvOps.ldnH rfl rfl (by assumption) ?_
                      refine EvOps.step (n := 0) rfl ?_
                      refine EvOps.call rfl rfl ?_
                      refine w22 (n := h.length + 15) (g := true) (s := (stepN k.toNat s)) (k := 1) ⟨by rw [get_new]; rfl, by rw [Nat.add_assoc, get_new]; rfl, by rw [Nat.add_assoc, get_new]; rfl, by rw [Nat.add_assoc, get_new]; rfl⟩ hsm2 (by decide) ?_
                      refine EvOps.step (n := 0) rfl ?_
                      refine EvOps.nil ?_
                      simp only [KP, KH, KC, ↓reduceIte, Nat.reduceEqDiff, Nat.reduceAdd]
                      refine EvC.seq ?_
                      refine EvC.seq ?_
                      refine EvC.reg ?_
                      refine EvOps.step (n := 0) rfl ?_
                      refine EvOps.step (n := 0) rfl ?_
                      refine EvOps.nil ?_
                      simp only [KP, KH, KC, ↓reduceIte, Nat.reduceEqDiff, Nat.reduceAdd]
                      refine EvC.condS rfl (fun hc => ?_) (fun hc => ?_)
                      · first
                         | cases hc; done
                         | refine EvC.seq ?_
                           refine EvC.reg ?_
                           refine EvOps.step (n := 0) rfl ?_
                           refine EvOps.nil ?_
                           simp only [KP, KH, KC, ↓reduceIte, Nat.reduceEqDiff, Nat.reduceAdd]
                           refine EvC.ret ?_
                           refine Res.finR rfl ?_
                           first | exact hq _ | (exfalso; simp at hc; done) | (exfalso; simp at hc; omega)
                      · first
                         | cases hc; done
                         | refine EvC.skip ?_
                           refine EvC.seq ?_
                           refine EvC.seq ?_
                           refine EvC.reg ?_
                           refine EvOps.step (n := 0) rfl ?_
                           refine EvOps.step (n := 0) rfl ?_
                           refine EvOps.step (n := 0) rfl ?_
                           refine EvOps.nil ?_
                           simp only [KP, KH, KC, ↓reduceIte, Nat.reduceEqDiff, Nat.reduceAdd]
                           refine EvC.condS rfl (fun hc => ?_) (fun hc => ?_)
                           · first
                              | cases hc; done
                              | refine EvC.seq ?_
                                refine EvC.reg ?_
                                refine EvOps.step (n := 0) rfl ?_
                                refine EvOps.nil ?_
                                simp only [KP, KH, KC, ↓reduceIte, Nat.reduceEqDiff, Nat.reduceAdd]
                                refine EvC.ret ?_
                                refine Res.finR rfl ?_
                                first | exact hq _ | (exfalso; simp at hc; done) | (exfalso; simp at hc; omega)
                           · first
                              | cases hc; done
                              | refine EvC.skip ?_
                                refine EvC.seq ?_
                                refine EvC.reg ?_
                                refine EvOps.step (n := 0) rfl ?_
                                refine EvOps.nil ?_
                                simp only [KP, KH, KC, ↓reduceIte, Nat.reduceEqDiff, Nat.reduceAdd]
                                refine EvC.ret ?_
                                refine Res.finR rfl ?_
                                first | exact hq _ | (exfalso; simp at hc; done) | (exfalso; simp at hc; omega)
/-- laws.FnExactRunString -/
theorem w5F {r1 r2 r3 r4 : Option Ref} {c1 c2 c3 c4 : Nat} {g1 g2 g3 g4 : Option Nat} {s : Str} {k : Int} (a : StrV h (.sl r1 s.pts.length c1 g1) (.sl r2 s.bef.length c2 g2) (.sl r3 s.fixed.length c3 g3) (.sl r4 s.lens.length c4 g4) s) (hn : s.pts.length < 2 ^ 63 ∧ s.bef.length < 2 ^ 63 ∧ s.fixed.length < 2 ^ 63 ∧ s.lens.length < 2 ^ 63) (hok : s.ok = false ∨ ¬ (0 ≤ k ∧ k ≤ 1000)) (hq : ∀ h', Q (.b true) h') : W Φ 5 [strAV (.sl r1 s.pts.length c1 g1) (.sl r2 s.bef.length c2 g2) (.sl r3 s.fixed.length c3 g3) (.sl r4 s.lens.length c4 g4) s, i64 k] h Q := by
  refine W.fullL (F := F5) rfl ?_
  refine EvC.seq ?_
  refine EvC.reg ?_
  refine EvOps.boxL rfl rfl rfl rfl rfl ?_
  refine EvOps.step (n := 0) rfl ?_
  refine EvOps.nil ?_
  simp only [KP, KH, KC, ↓reduceIte, Nat.reduceEqDiff, Nat.reduceAdd]
  refine EvC.seq ?_
  refine EvC.reg ?_
  refine EvOps.step (n := 0) rfl ?_
  refine EvOps.nil ?_
  simp only [KP, KH, KC, ↓reduceIte, Nat.reduceEqDiff, Nat.reduceAdd]
  refine EvC.seq ?_
  refine EvC.reg ?_
  first | refine EvOps.ldnL rfl rfl rfl ?_ | refine EvOps.ldnLm rfl rfl rfl (by simp only [List.length_set, S2_len]) ?_ | refine EvOps.ldnH rfl rfl (by assumption) ?_
  refine EvOps.step (n := 0) rfl ?_
  refine EvOps.call rfl rfl ?_
  refine w17 hn (by omega) (fun r hr => ?_)
  refine EvOps.step (n := 0) rfl ?_
  refine EvOps.nil ?_
  simp only [KP, KH, KC, ↓reduceIte, Nat.reduceEqDiff, Nat.reduceAdd]
  refine EvC.seq ?_
  refine EvC.seq ?_
  refine EvC.reg ?_
  refine EvOps.step (n := 0) rfl ?_
  refine EvOps.step (n := 0) rfl ?_
  refine EvOps.nil ?_
  simp only [KP, KH, KC, ↓reduceIte, Nat.reduceEqDiff, Nat.reduceAdd]
  refine EvC.condS rfl (fun hc => ?_) (fun hc => ?_)
  · first
     | cases hc; done
     | refine EvC.seq ?_
       refine EvC.reg ?_
       refine EvOps.step (n := 0) rfl ?_
       refine EvOps.nil ?_
       simp only [KP, KH, KC, ↓reduceIte, Nat.reduceEqDiff, Nat.reduceAdd]
       refine EvC.ret ?_
       refine Res.finR rfl ?_
       first | exact hq _ | (exfalso; simp at hc; done) | (exfalso; simp at hc; omega)
  · first
     | cases hc; done
     | refine EvC.skip ?_
       refine EvC.seq ?_
       refine EvC.reg ?_
       first | refine EvOps.ldnL rfl rfl rfl ?_ | refine EvOps.ldnLm rfl rfl rfl (by simp only [List.length_set, S2_len]) ?_ | refine EvOps.ldnH rfl rfl (by assumption) ?_
       refine EvOps.call rfl rfl ?_
       simp only [decide_eq_false_iff_not] at hc
       have hsm : s.small := ⟨by omega, by omega, by omega, by omega⟩
       have hsl : s.pts.length < 2 ^ 40 := hsm.1
       have hkm : 0 ≤ k4 s 1 := by dsimp only [k4, k3, k2, k1]; omega
       refine w19 (s := s) (StrV.app _ a) hsm ?_
       try simp only [List.append_assoc, List.cons_append, List.nil_append, List.length_append, List.length_cons, List.length_nil, Nat.zero_add, Nat.reduceAdd]
       refine EvOps.step (n := 0) rfl ?_
       refine EvOps.call rfl rfl ?_
       refine w23F (s := s) (StrAt.v (n := h.length + 1) (s := s) ⟨by rw [get_new]; rfl, by rw [Nat.add_assoc, get_new]; rfl, by rw [Nat.add_assoc, get_new]; rfl, by rw [Nat.add_assoc, get_new]; rfl⟩ false) hsl hok ?_
       try simp only [List.append_assoc, List.cons_append, List.nil_append, List.length_append, List.length_cons, List.length_nil, Nat.zero_add, Nat.reduceAdd]
       refine EvOps.step (n := 0) rfl ?_
       refine EvOps.step (n := 0) rfl ?_
       refine EvOps.step (n := 0) rfl ?_
       refine EvOps.allocL rfl rfl ?_
       first | refine EvOps.stL rfl rfl rfl rfl ?_ | refine EvOps.stLm rfl rfl rfl rfl (by simp only [List.length_set, S2_len]) ?_ | refine EvOps.stH rfl rfl rfl (by assumption) ?_
       refine EvOps.step (n := 0) rfl ?_
       refine EvOps.nil ?_
       simp only [KP, KH, KC, ↓reduceIte, Nat.reduceEqDiff, Nat.reduceAdd]
       refine EvC.seq ?_
       refine EvC.reg ?_
       first | refine EvOps.ldnL rfl rfl rfl ?_ | refine EvOps.ldnLm rfl rfl rfl (by simp only [List.length_set, S2_len]) ?_ | refine EvOps.ldnH rfl rfl (by assumption) ?_
       refine EvOps.call rfl rfl ?_
       refine w19 (s := s) (StrV.app _ a) hsm ?_
       try simp only [List.append_assoc, List.cons_append, List.nil_append, List.length_append, List.length_cons, List.length_nil, Nat.zero_add, Nat.reduceAdd]
       refine EvOps.allocL rfl rfl ?_
       first | refine EvOps.stL rfl rfl rfl rfl ?_ | refine EvOps.stLm rfl rfl rfl rfl (by simp only [List.length_set, S2_len]) ?_ | refine EvOps.stH rfl rfl rfl (by assumption) ?_
       refine EvOps.nil ?_
       simp only [KP, KH, KC, ↓reduceIte, Nat.reduceEqDiff, Nat.reduceAdd]
       refine EvC.seq ?_
       refine EvC.reg ?_
       first | refine EvOps.ldnL rfl rfl rfl ?_ | refine EvOps.ldnLm rfl rfl rfl (by simp only [List.length_set, S2_len]) ?_ | refine EvOps.ldnH rfl rfl (by assumption) ?_
       refine EvOps.step (n := 0) rfl ?_
       refine EvOps.call rfl rfl ?_
       refine w9F (s := s) (StrAt.v (n := h.length + 6) (s := s) ⟨by rw [get_new]; rfl, by rw [Nat.add_assoc, get_new]; rfl, by rw [Nat.add_assoc, get_new]; rfl, by rw [Nat.add_assoc, get_new]; rfl⟩ false) hsl hok ?_
       try simp only [List.append_assoc, List.cons_append, List.nil_append, List.length_append, List.length_cons, List.length_nil, Nat.zero_add, Nat.reduceAdd]
       refine EvOps.step (n := 0) rfl ?_
       refine EvOps.step (n := 0) rfl ?_
       refine EvOps.step (n := 0) rfl ?_
       refine EvOps.allocL rfl rfl ?_
       first | refine EvOps.stL rfl rfl rfl rfl ?_ | refine EvOps.stLm rfl rfl rfl rfl (by simp only [List.length_set, S2_len]) ?_ | refine EvOps.stH rfl rfl rfl (by assumption) ?_
       refine EvOps.step (n := 0) rfl ?_
       refine EvOps.nil ?_
       simp only [KP, KH, KC, ↓reduceIte, Nat.reduceEqDiff, Nat.reduceAdd]
       refine EvC.seq ?_
       refine EvC.seq ?_
       refine EvC.reg ?_
       first | refine EvOps.ldnL rfl rfl rfl ?_ | refine EvOps.ldnLm rfl rfl rfl (by simp only [List.length_set, S2_len]) ?_ | refine EvOps.ldnH rfl rfl (by assumption) ?_
       first | refine EvOps.ldnL rfl rfl rfl ?_ | refine EvOps.ldnLm rfl rfl rfl (by simp only [List.length_set, S2_len]) ?_ | refine EvOps.ldnH rfl rfl (by assumption) ?_
       refine EvOps.call rfl rfl ?_
       refine w20 (s := str0) (StrV.zero _) (StrV.zero _) ⟨by decide, by decide, by decide, by decide⟩ ?_
       refine EvOps.step (n := 0) rfl ?_
       refine EvOps.step (n := 0) rfl ?_
       refine EvOps.step (n := 0) rfl ?_
       refine EvOps.step (n := 0) rfl ?_
       refine EvOps.step (n := 0) rfl ?_
       refine EvOps.step (n := 0) rfl ?_
       refine EvOps.nil ?_
       simp only [KP, KH, KC, ↓reduceIte, Nat.reduceEqDiff, Nat.reduceAdd]
       refine EvC.condN rfl ?_
       refine EvC.skip ?_
       refine EvC.seq ?_
       refine EvC.seq ?_
       refine EvC.drw rfl ?_
       first | refine EvOps.ldnL rfl rfl rfl ?_ | refine EvOps.ldnLm rfl rfl rfl (by simp only [List.length_set, S2_len]) ?_ | refine EvOps.ldnH rfl rfl (by assumption) ?_
       first | refine EvOps.ldnL rfl rfl rfl ?_ | refine EvOps.ldnLm rfl rfl rfl (by simp only [List.length_set, S2_len]) ?_ | refine EvOps.ldnH rfl rfl (by assumption) ?_
       refine EvOps.call rfl rfl ?_
       refine w19 (s := s) (StrV.app _ a) hsm ?_
       try simp only [List.append_assoc, List.cons_append, List.nil_append, List.length_append, List.length_cons, List.length_nil, Nat.zero_add, Nat.reduceAdd]
       refine EvOps.call rfl rfl ?_
       refine w20 (s := s) (StrAt.v (n := h.length + 6) (s := s) ⟨by rw [get_new]; rfl, by rw [Nat.add_assoc, get_new]; rfl, by rw [Nat.add_assoc, get_new]; rfl, by rw [Nat.add_assoc, get_new]; rfl⟩ false) (StrAt.v (n := h.length + 12) (s := s) ⟨by rw [get_new]; rfl, by rw [Nat.add_assoc, get_new]; rfl, by rw [Nat.add_assoc, get_new]; rfl, by rw [Nat.add_assoc, get_new]; rfl⟩ false) hsm ?_
       refine EvOps.step (n := 0) rfl ?_
       refine EvOps.nil ?_
       simp only [KP, KH, KC, ↓reduceIte, Nat.reduceEqDiff, Nat.reduceAdd]
       refine EvC.condN rfl ?_
       refine EvC.skip ?_
       refine EvC.seq ?_
       refine EvC.reg ?_
       refine EvOps.step (n := 0) rfl ?_
       refine EvOps.nil ?_
       simp only [KP, KH, KC, ↓reduceIte, Nat.reduceEqDiff, Nat.reduceAdd]
       refine EvC.seq ?_
       refine EvC.reg ?_
       first | refine EvOps.ldnL rfl rfl rfl ?_ | refine EvOps.ldnLm rfl rfl rfl (by simp only [List.length_set, S2_len]) ?_ | refine EvOps.ldnH rfl rfl (by assumption) ?_
       refine EvOps.step (n := 0) rfl ?_
       refine EvOps.call rfl rfl ?_
       refine w21 (n := h.length + 6) (g := false) (s := s) (k := 1) ⟨by rw [get_new]; rfl, by rw [Nat.add_assoc, get_new]; rfl, by rw [Nat.add_assoc, get_new]; rfl, by rw [Nat.add_assoc, get_new]; rfl⟩ hsm (by decide) ?_
       rw [marked_new]
       simp only [List.set_cons_zero, List.set_cons_succ, Nat.reduceAdd]
       refine EvOps.step (n := 0) rfl ?_
       refine EvOps.nil ?_
       simp only [KP, KH, KC, ↓reduceIte, Nat.reduceEqDiff, Nat.reduceAdd]
       refine EvC.seq ?_
       refine EvC.seq ?_
       refine EvC.reg ?_
       refine EvOps.step (n := 0) rfl ?_
       refine EvOps.step (n := 0) rfl ?_
       refine EvOps.stepB (n := 0) rfl (fun hc => ?_) (fun hc => ?_)
       · first
          | cases hc; done
          | first | refine EvOps.ldnL rfl rfl rfl ?_ | refine EvOps.ldnLm rfl rfl rfl (by simp only [List.length_set, S2_len]) ?_ | refine EvOps.ldnH rfl rfl (by assumption) ?_ | refine EvOps.step (n := 0) rfl ?_
            first | refine EvOps.ldnL rfl rfl rfl ?_ | refine EvOps.ldnLm rfl rfl rfl (by simp only [List.length_set, S2_len]) ?_ | refine EvOps.ldnH rfl rfl (by assumption) ?_ | refine EvOps.step (n := 0) rfl ?_
            first
             | (refine EvOps.call rfl rfl ?_; refine w20 (s := str0) (StrV.zero _) (StrV.zero _) ⟨by decide, by decide, by decide, by decide⟩ ?_)
             | refine EvOps.step (n := 0) rfl ?_
            refine EvOps.step (n := 0) rfl ?_
            refine EvOps.step (n := 0) rfl ?_
            refine EvOps.step (n := 0) rfl ?_
            refine EvOps.step (n := 0) rfl ?_
            refine EvOps.step (n := 0) rfl ?_
            refine EvOps.step (n := 0) rfl ?_
            refine EvOps.step (n := 0) rfl ?_
            refine EvOps.nil ?_
            simp only [KP, KH, KC, ↓reduceIte, Nat.reduceEqDiff, Nat.reduceAdd]
            refine EvC.condN rfl ?_
            refine EvC.skip ?_
            refine EvC.seq ?_
            refine EvC.reg ?_
            refine EvOps.step (n := 0) rfl ?_
            refine EvOps.nil ?_
            simp only [KP, KH, KC, ↓reduceIte, Nat.reduceEqDiff, Nat.reduceAdd]
            refine EvC.seq ?_
            refine EvC.reg ?_
            first | refine EvOps.ldnL rfl rfl rfl ?_ | refine EvOps.ldnLm rfl rfl rfl (by simp only [List.length_set, S2_len]) ?_ | refine EvOps.ldnH rfl rfl (by assumption) ?_
            refine EvOps.step (n := 0) rfl ?_
            refine EvOps.call rfl rfl ?_
            refine w21N ?_
            refine EvOps.step (n := 0) rfl ?_
            refine EvOps.nil ?_
            simp only [KP, KH, KC, ↓reduceIte, Nat.reduceEqDiff, Nat.reduceAdd]
            refine EvC.seq ?_
            refine EvC.reg ?_
            refine EvOps.step (n := 0) rfl ?_
            refine EvOps.nil ?_
            simp only [KP, KH, KC, ↓reduceIte, Nat.reduceEqDiff, Nat.reduceAdd]
            refine EvC.seq ?_
            refine EvC.reg ?_
            first | refine EvOps.ldnL rfl rfl rfl ?_ | refine EvOps.ldnLm rfl rfl rfl (by simp only [List.length_set, S2_len]) ?_ | refine EvOps.ldnH rfl rfl (by assumption) ?_
            refine EvOps.step (n := 0) rfl ?_
            refine EvOps.call rfl rfl ?_
            refine w22N (by decide) ?_
            refine EvOps.step (n := 0) rfl ?_
            refine EvOps.nil ?_
            simp only [KP, KH, KC, ↓reduceIte, Nat.reduceEqDiff, Nat.reduceAdd]
            refine EvC.seq ?_
            refine EvC.seq ?_
            refine EvC.reg ?_
            refine EvOps.step (n := 0) rfl ?_
            refine EvOps.step (n := 0) rfl ?_
            refine EvOps.nil ?_
            simp only [KP, KH, KC, ↓reduceIte, Nat.reduceEqDiff, Nat.reduceAdd]
            refine EvC.condS rfl (fun hc => ?_) (fun hc => ?_)
            · first
               | cases hc; done
               | refine EvC.seq ?_
                 refine EvC.reg ?_
                 refine EvOps.step (n := 0) rfl ?_
                 refine EvOps.nil ?_
                 simp only [KP, KH, KC, ↓reduceIte, Nat.reduceEqDiff, Nat.reduceAdd]
                 refine EvC.ret ?_
                 refine Res.finR rfl ?_
                 first | exact hq _ | (exfalso; simp at hc; done) | (exfalso; simp at hc; omega)
            · first
               | cases hc; done
               | refine EvC.skip ?_
                 refine EvC.seq ?_
                 refine EvC.seq ?_
                 refine EvC.reg ?_
                 refine EvOps.step (n := 0) rfl ?_
                 refine EvOps.step (n := 0) rfl ?_
                 refine EvOps.step (n := 0) rfl ?_
                 refine EvOps.nil ?_
                 simp only [KP, KH, KC, ↓reduceIte, Nat.reduceEqDiff, Nat.reduceAdd]
                 refine EvC.condS rfl (fun hc => ?_) (fun hc => ?_)
                 · first
                    | cases hc; done
                    | refine EvC.seq ?_
                      refine EvC.reg ?_
                      refine EvOps.step (n := 0) rfl ?_
                      refine EvOps.nil ?_
                      simp only [KP, KH, KC, ↓reduceIte, Nat.reduceEqDiff, Nat.reduceAdd]
                      refine EvC.ret ?_
                      refine Res.finR rfl ?_
                      first | exact hq _ | (exfalso; simp at hc; done) | (exfalso; simp at hc; omega)
                 · first
                    | cases hc; done
                    | refine EvC.skip ?_
                      refine EvC.seq ?_
                      refine EvC.reg ?_
                      first | refine EvOps.ldnL rfl rfl rfl ?_ | refine EvOps.ldnLm rfl rfl rfl (by simp only [List.length_set, S2_len]) ?_ | refine EvOps.ldnH rfl rfl (by assumption) ?_
                      refine EvOps.call rfl rfl ?_
                      refine w19 (s := s) (StrV.app _ a) hsm ?_
                      try simp only [List.append_assoc, List.cons_append, List.nil_append, List.length_append, List.length_cons, List.length_nil, Nat.zero_add, Nat.reduceAdd]
                      refine EvOps.step (n := 0) rfl ?_
                      refine EvOps.call rfl rfl ?_
                      refine w9F (s := s) (StrAt.v (n := h.length + 16) (s := s) ⟨by rw [get_new]; rfl, by rw [Nat.add_assoc, get_new]; rfl, by rw [Nat.add_assoc, get_new]; rfl, by rw [Nat.add_assoc, get_new]; rfl⟩ false) hsl hok ?_
                      try simp only [List.append_assoc, List.cons_append, List.nil_append, List.length_append, List.length_cons, List.length_nil, Nat.zero_add, Nat.reduceAdd]
                      refine EvOps.step (n := 0) rfl ?_
                      refine EvOps.step (n := 0) rfl ?_
                      refine EvOps.step (n := 0) rfl ?_
                      refine EvOps.allocL rfl rfl ?_
                      first | refine EvOps.stL rfl rfl rfl rfl ?_ | refine EvOps.stLm rfl rfl rfl rfl (by simp only [List.length_set, S2_len]) ?_ | refine EvOps.stH rfl rfl rfl (by assumption) ?_
                      refine EvOps.step (n := 0) rfl ?_
                      refine EvOps.nil ?_
                      simp only [KP, KH, KC, ↓reduceIte, Nat.reduceEqDiff, Nat.reduceAdd]
                      refine EvC.seq ?_
                      refine EvC.seq ?_
                      refine EvC.reg ?_
                      first | refine EvOps.ldnL rfl rfl rfl ?_ | refine EvOps.ldnLm rfl rfl rfl (by simp only [List.length_set, S2_len]) ?_ | refine EvOps.ldnH rfl rfl (by assumption) ?_
                      first | refine EvOps.ldnL rfl rfl rfl ?_ | refine EvOps.ldnLm rfl rfl rfl (by simp only [List.length_set, S2_len]) ?_ | refine EvOps.ldnH rfl rfl (by assumption) ?_
                      refine EvOps.call rfl rfl ?_
                      refine w20 (s := str0) (StrV.zero _) (StrV.zero _) ⟨by decide, by decide, by decide, by decide⟩ ?_
                      refine EvOps.step (n := 0) rfl ?_
                      refine EvOps.step (n := 0) rfl ?_
                      refine EvOps.step (n := 0) rfl ?_
                      refine EvOps.step (n := 0) rfl ?_
                      refine EvOps.step (n := 0) rfl ?_
                      refine EvOps.step (n := 0) rfl ?_
                      refine EvOps.nil ?_
                      simp only [KP, KH, KC, ↓reduceIte, Nat.reduceEqDiff, Nat.reduceAdd]
                      refine EvC.condN rfl ?_
                      refine EvC.skip ?_
                      refine EvC.seq ?_
                      refine EvC.reg ?_
                      refine EvOps.step (n := 0) rfl ?_
                      refine EvOps.nil ?_
                      simp only [KP, KH, KC, ↓reduceIte, Nat.reduceEqDiff, Nat.reduceAdd]
                      refine EvC.seq ?_
                      refine EvC.reg ?_
                      first | refine EvOps.ldnL rfl rfl rfl ?_ | refine EvOps.ldnLm rfl rfl rfl (by simp only [List.length_set, S2_len]) ?_ | refine EvOps.ldnH rfl rfl (by assumption) ?_
                      refine EvOps.step (n := 0) rfl ?_
                      refine EvOps.call rfl rfl ?_
                      refine w22N (by decide) ?_
                      refine EvOps.step (n := 0) rfl ?_
                      refine EvOps.nil ?_
                      simp only [KP, KH, KC, ↓reduceIte, Nat.reduceEqDiff, Nat.reduceAdd]
                      refine EvC.seq ?_
                      refine EvC.seq ?_
                      refine EvC.reg ?_
                      refine EvOps.step (n := 0) rfl ?_
                      refine EvOps.step (n := 0) rfl ?_
                      refine EvOps.nil ?_
                      simp only [KP, KH, KC, ↓reduceIte, Nat.reduceEqDiff, Nat.reduceAdd]
                      refine EvC.condS rfl (fun hc => ?_) (fun hc => ?_)
                      · first
                         | cases hc; done
                         | refine EvC.seq ?_
                           refine EvC.reg ?_
                           refine EvOps.step (n := 0) rfl ?_
                           refine EvOps.nil ?_
                           simp only [KP, KH, KC, ↓reduceIte, Nat.reduceEqDiff, Nat.reduceAdd]
                           refine EvC.ret ?_
                           refine Res.finR rfl ?_
                           first | exact hq _ | (exfalso; simp at hc; done) | (exfalso; simp at hc; omega)
                      · first
                         | cases hc; done
                         | refine EvC.skip ?_
                           refine EvC.seq ?_
                           refine EvC.seq ?_
                           refine EvC.reg ?_
                           refine EvOps.step (n := 0) rfl ?_
                           refine EvOps.step (n := 0) rfl ?_
                           refine EvOps.step (n := 0) rfl ?_
                           refine EvOps.nil ?_
                           simp only [KP, KH, KC, ↓reduceIte, Nat.reduceEqDiff, Nat.reduceAdd]
                           refine EvC.condS rfl (fun hc => ?_) (fun hc => ?_)
                           · first
                              | cases hc; done
                              | refine EvC.seq ?_
                                refine EvC.reg ?_
                                refine EvOps.step (n := 0) rfl ?_
                                refine EvOps.nil ?_
                                simp only [KP, KH, KC, ↓reduceIte, Nat.reduceEqDiff, Nat.reduceAdd]
                                refine EvC.ret ?_
                                refine Res.finR rfl ?_
                                first | exact hq _ | (exfalso; simp at hc; done) | (exfalso; simp at hc; omega)
                           · first
                              | cases hc; done
                              | refine EvC.skip ?_
                                refine EvC.seq ?_
                                refine EvC.reg ?_
                                refine EvOps.step (n := 0) rfl ?_
                                refine EvOps.nil ?_
                                simp only [KP, KH, KC, ↓reduceIte, Nat.reduceEqDiff, Nat.reduceAdd]
                                refine EvC.ret ?_
                                refine Res.finR rfl ?_
                                first | exact hq _ | (exfalso; simp at hc; done) | (exfalso; simp at hc; omega)
       · first
          | cases hc; done
          | first | refine EvOps.ldnL rfl rfl rfl ?_ | refine EvOps.ldnLm rfl rfl rfl (by simp only [List.length_set, S2_len]) ?_ | refine EvOps.ldnH rfl rfl (by assumption) ?_ | refine EvOps.step (n := 0) rfl ?_
            first | refine EvOps.ldnL rfl rfl rfl ?_ | refine EvOps.ldnLm rfl rfl rfl (by simp only [List.length_set, S2_len]) ?_ | refine EvOps.ldnH rfl rfl (by assumption) ?_ | refine EvOps.step (n := 0) rfl ?_
            first
             | (refine EvOps.call rfl rfl ?_; refine w20 (s := str0) (StrV.zero _) (StrV.zero _) ⟨by decide, by decide, by decide, by decide⟩ ?_)
             | refine EvOps.step (n := 0) rfl ?_
            refine EvOps.step (n := 0) rfl ?_
            refine EvOps.step (n := 0) rfl ?_
            refine EvOps.step (n := 0) rfl ?_
            refine EvOps.step (n := 0) rfl ?_
            refine EvOps.step (n := 0) rfl ?_
            refine EvOps.step (n := 0) rfl ?_
            refine EvOps.step (n := 0) rfl ?_
            refine EvOps.nil ?_
            simp only [KP, KH, KC, ↓reduceIte, Nat.reduceEqDiff, Nat.reduceAdd]
            refine EvC.condN rfl ?_
            refine EvC.skip ?_
            refine EvC.seq ?_
            refine EvC.reg ?_
            refine EvOps.step (n := 0) rfl ?_
            refine EvOps.nil ?_
            simp only [KP, KH, KC, ↓reduceIte, Nat.reduceEqDiff, Nat.reduceAdd]
            refine EvC.seq ?_
            refine EvC.reg ?_
            first | refine EvOps.ldnL rfl rfl rfl ?_ | refine EvOps.ldnLm rfl rfl rfl (by simp only [List.length_set, S2_len]) ?_ | refine EvOps.ldnH rfl rfl (by assumption) ?_
            refine EvOps.step (n := 0) rfl ?_
            refine EvOps.call rfl rfl ?_
            refine w21N ?_
            refine EvOps.step (n := 0) rfl ?_
            refine EvOps.nil ?_
            simp only [KP, KH, KC, ↓reduceIte, Nat.reduceEqDiff, Nat.reduceAdd]
            refine EvC.seq ?_
            refine EvC.reg ?_
            refine EvOps.step (n := 0) rfl ?_
            refine EvOps.nil ?_
            simp only [KP, KH, KC, ↓reduceIte, Nat.reduceEqDiff, Nat.reduceAdd]
            refine EvC.seq ?_
            refine EvC.reg ?_
            first | refine EvOps.ldnL rfl rfl rfl ?_ | refine EvOps.ldnLm rfl rfl rfl (by simp only [List.length_set, S2_len]) ?_ | refine EvOps.ldnH rfl rfl (by assumption) ?_
            refine EvOps.step (n := 0) rfl ?_
            refine EvOps.call rfl rfl ?_
            refine w22N (by decide) ?_
            refine EvOps.step (n := 0) rfl ?_
            refine EvOps.nil ?_
            simp only [KP, KH, KC, ↓reduceIte, Nat.reduceEqDiff, Nat.reduceAdd]
            refine EvC.seq ?_
            refine EvC.seq ?_
            refine EvC.reg ?_
            refine EvOps.step (n := 0) rfl ?_
            refine EvOps.step (n := 0) rfl ?_
            refine EvOps.nil ?_
            simp only [KP, KH, KC, ↓reduceIte, Nat.reduceEqDiff, Nat.reduceAdd]
            refine EvC.condS rfl (fun hc => ?_) (fun hc => ?_)
            · first
               | cases hc; done
               | refine EvC.seq ?_
                 refine EvC.reg ?_
                 refine EvOps.step (n := 0) rfl ?_
                 refine EvOps.nil ?_
                 simp only [KP, KH, KC, ↓reduceIte, Nat.reduceEqDiff, Nat.reduceAdd]
                 refine EvC.ret ?_
                 refine Res.finR rfl ?_
                 first | exact hq _ | (exfalso; simp at hc; done) | (exfalso; simp at hc; omega)
            · first
               | cases hc; done
               | refine EvC.skip ?_
                 refine EvC.seq ?_
                 refine EvC.seq ?_
                 refine EvC.reg ?_
                 refine EvOps.step (n := 0) rfl ?_
                 refine EvOps.step (n := 0) rfl ?_
                 refine EvOps.step (n := 0) rfl ?_
                 refine EvOps.nil ?_
                 simp only [KP, KH, KC, ↓reduceIte, Nat.reduceEqDiff, Nat.reduceAdd]
                 refine EvC.condS rfl (fun hc => ?_) (fun hc => ?_)
                 · first
                    | cases hc; done
                    | refine EvC.seq ?_
                      refine EvC.reg ?_
                      refine EvOps.step (n := 0) rfl ?_
                      refine EvOps.nil ?_
                      simp only [KP, KH, KC, ↓reduceIte, Nat.reduceEqDiff, Nat.reduceAdd]
                      refine EvC.ret ?_
                      refine Res.finR rfl ?_
                      first | exact hq _ | (exfalso; simp at hc; done) | (exfalso; simp at hc; omega)
                 · first
                    | cases hc; done
                    | refine EvC.skip ?_
                      refine EvC.seq ?_
                      refine EvC.reg ?_
                      first | refine EvOps.ldnL rfl rfl rfl ?_ | refine EvOps.ldnLm rfl rfl rfl (by simp only [List.length_set, S2_len]) ?_ | refine EvOps.ldnH rfl rfl (by assumption) ?_
                      refine EvOps.call rfl rfl ?_
                      refine w19 (s := s) (StrV.app _ a) hsm ?_
                      try simp only [List.append_assoc, List.cons_append, List.nil_append, List.length_append, List.length_cons, List.length_nil, Nat.zero_add, Nat.reduceAdd]
                      refine EvOps.step (n := 0) rfl ?_
                      refine EvOps.call rfl rfl ?_
                      refine w9F (s := s) (StrAt.v (n := h.length + 16) (s := s) ⟨by rw [get_new]; rfl, by rw [Nat.add_assoc, get_new]; rfl, by rw [Nat.add_assoc, get_new]; rfl, by rw [Nat.add_assoc, get_new]; rfl⟩ false) hsl hok ?_
                      try simp only [List.append_assoc, List.cons_append, List.nil_append, List.length_append, List.length_cons, List.length_nil, Nat.zero_add, Nat.reduceAdd]
                      refine EvOps.step (n := 0) rfl ?_
                      refine EvOps.step (n := 0) rfl ?_
                      refine EvOps.step (n := 0) rfl ?_
                      refine EvOps.allocL rfl rfl ?_
                      first | refine EvOps.stL rfl rfl rfl rfl ?_ | refine EvOps.stLm rfl rfl rfl rfl (by simp only [List.length_set, S2_len]) ?_ | refine EvOps.stH rfl rfl rfl (by assumption) ?_
                      refine EvOps.step (n := 0) rfl ?_
                      refine EvOps.nil ?_
                      simp only [KP, KH, KC, ↓reduceIte, Nat.reduceEqDiff, Nat.reduceAdd]
                      refine EvC.seq ?_
                      refine EvC.seq ?_
                      refine EvC.reg ?_
                      first | refine EvOps.ldnL rfl rfl rfl ?_ | refine EvOps.ldnLm rfl rfl rfl (by simp only [List.length_set, S2_len]) ?_ | refine EvOps.ldnH rfl rfl (by assumption) ?_
                      first | refine EvOps.ldnL rfl rfl rfl ?_ | refine EvOps.ldnLm rfl rfl rfl (by simp only [List.length_set, S2_len]) ?_ | refine EvOps.ldnH rfl rfl (by assumption) ?_
                      refine EvOps.call rfl rfl ?_
                      refine w20 (s := str0) (StrV.zero _) (StrV.zero _) ⟨by decide, by decide, by decide, by decide⟩ ?_
                      refine EvOps.step (n := 0) rfl ?_
                      refine EvOps.step (n := 0) rfl ?_
                      refine EvOps.step (n := 0) rfl ?_
                      refine EvOps.step (n := 0) rfl ?_
                      refine EvOps.step (n := 0) rfl ?_
                      refine EvOps.step (n := 0) rfl ?_
                      refine EvOps.nil ?_
                      simp only [KP, KH, KC, ↓reduceIte, Nat.reduceEqDiff, Nat.reduceAdd]
                      refine EvC.condN rfl ?_
                      refine EvC.skip ?_
                      refine EvC.seq ?_
                      refine EvC.reg ?_
                      refine EvOps.step (n := 0) rfl ?_
                      refine EvOps.nil ?_
                      simp only [KP, KH, KC, ↓reduceIte, Nat.reduceEqDiff, Nat.reduceAdd]
                      refine EvC.seq ?_
                      refine EvC.reg ?_
                      first | refine EvOps.ldnL rfl rfl rfl ?_ | refine EvOps.ldnLm rfl rfl rfl (by simp only [List.length_set, S2_len]) ?_ | refine EvOps.ldnH rfl rfl (by assumption) ?_
                      refine EvOps.step (n := 0) rfl ?_
                      refine EvOps.call rfl rfl ?_
                      refine w22N (by decide) ?_
                      refine EvOps.step (n := 0) rfl ?_
                      refine EvOps.nil ?_
                      simp only [KP, KH, KC, ↓reduceIte, Nat.reduceEqDiff, Nat.reduceAdd]
                      refine EvC.seq ?_
                      refine EvC.seq ?_
                      refine EvC.reg ?_
                      refine EvOps.step (n := 0) rfl ?_
                      refine EvOps.step (n := 0) rfl ?_
                      refine EvOps.nil ?_
                      simp only [KP, KH, KC, ↓reduceIte, Nat.reduceEqDiff, Nat.reduceAdd]
                      refine EvC.condS rfl (fun hc => ?_) (fun hc => ?_)
                      · first
                         | cases hc; done
                         | refine EvC.seq ?_
                           refine EvC.reg ?_
                           refine EvOps.step (n := 0) rfl ?_
                           refine EvOps.nil ?_
                           simp only [KP, KH, KC, ↓reduceIte, Nat.reduceEqDiff, Nat.reduceAdd]
                           refine EvC.ret ?_
                           refine Res.finR rfl ?_
                           first | exact hq _ | (exfalso; simp at hc; done) | (exfalso; simp at hc; omega)
                      · first
                         | cases hc; done
                         | refine EvC.skip ?_
                           refine EvC.seq ?_
                           refine EvC.seq ?_
                           refine EvC.reg ?_
                           refine EvOps.step (n := 0) rfl ?_
                           refine EvOps.step (n := 0) rfl ?_
                           refine EvOps.step (n := 0) rfl ?_
                           refine EvOps.nil ?_
                           simp only [KP, KH, KC, ↓reduceIte, Nat.reduceEqDiff, Nat.reduceAdd]
                           refine EvC.condS rfl (fun hc => ?_) (fun hc => ?_)
                           · first
                              | cases hc; done
                              | refine EvC.seq ?_
                                refine EvC.reg ?_
                                refine EvOps.step (n := 0) rfl ?_
                                refine EvOps.nil ?_
                                simp only [KP, KH, KC, ↓reduceIte, Nat.reduceEqDiff, Nat.reduceAdd]
                                refine EvC.ret ?_
                                refine Res.finR rfl ?_
                                first | exact hq _ | (exfalso; simp at hc; done) | (exfalso; simp at hc; omega)
                           · first
                              | cases hc; done
                              | refine EvC.skip ?_
                                refine EvC.seq ?_
                                refine EvC.reg ?_
                                refine EvOps.step (n := 0) rfl ?_
                                refine EvOps.nil ?_
                                simp only [KP, KH, KC, ↓reduceIte, Nat.reduceEqDiff, Nat.reduceAdd]
                                refine EvC.ret ?_
                                refine Res.finR rfl ?_
                                first | exact hq _ | (exfalso; simp at hc; done) | (exfalso; simp at hc; omega)
theorem w5 {r1 r2 r3 r4 : Option Ref} {c1 c2 c3 c4 : Nat} {g1 g2 g3 g4 : Option Nat} {s : Str} {k : Int} (a : StrV h (.sl r1 s.pts.length c1 g1) (.sl r2 s.bef.length c2 g2) (.sl r3 s.fixed.length c3 g3) (.sl r4 s.lens.length c4 g4) s) (hn : s.pts.length < 2 ^ 63 ∧ s.bef.length < 2 ^ 63 ∧ s.fixed.length < 2 ^ 63 ∧ s.lens.length < 2 ^ 63) (hq : ∀ h', Q (.b true) h') : W Φ 5 [strAV (.sl r1 s.pts.length c1 g1) (.sl r2 s.bef.length c2 g2) (.sl r3 s.fixed.length c3 g3) (.sl r4 s.lens.length c4 g4) s, i64 k] h Q := by
  by_cases hk : 0 ≤ k ∧ k ≤ 1000
  · cases hok : s.ok with
    | true => exact w5T a hn ⟨hok, hk⟩ hq
    | false => exact w5F a hn (.inl hok) hq
  · exact w5F a hn (.inr hk) hq
end
end Go.V.Try
