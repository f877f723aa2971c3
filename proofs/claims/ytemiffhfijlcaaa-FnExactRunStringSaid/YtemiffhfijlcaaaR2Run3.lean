import Derived.Test.YtemiffhfijlcaaaR2Run2
set_option linter.unusedSimpArgs false
set_option linter.unusedVariables false
set_option linter.unusedSectionVars false
/-! Steps of a string, the reference. -/
namespace Go.V.Try
open Go Go.V
section
variable {h : H} {Q : AV → H → Prop}
theorem stepN_pts_len (s : Str) : ∀ k, (stepN k s).pts.length = s.pts.length
  | 0 => rfl
  | k + 1 => by rw [show stepN (k + 1) s = (stepN k s).step from rfl, step_pts_len, stepN_pts_len s k]
theorem stepN_bef_len (s : Str) : ∀ k, (stepN k s).bef.length = s.bef.length
  | 0 => rfl
  | k + 1 => by rw [show stepN (k + 1) s = (stepN k s).step from rfl, step_bef_len, stepN_bef_len s k]
theorem w9T {r1 r2 r3 r4 : Option Ref} {c1 c2 c3 c4 : Nat} {g1 g2 g3 g4 : Option Nat} {s : Str} {k : Int} (a : StrV h (.sl r1 s.pts.length c1 g1) (.sl r2 s.bef.length c2 g2) (.sl r3 s.fixed.length c3 g3) (.sl r4 s.lens.length c4 g4) s) (hs : s.pts.length < 2 ^ 40) (hok : s.ok = true ∧ 0 ≤ k ∧ k ≤ 1000) (hq : Q (.tup [strOut h.length true (stepN k.toNat s), .b true]) (h ++ strBlk (stepN k.toNat s))) : W Φ 9 [strAV (.sl r1 s.pts.length c1 g1) (.sl r2 s.bef.length c2 g2) (.sl r3 s.fixed.length c3 g3) (.sl r4 s.lens.length c4 g4) s, i64 k] h Q := w9 a hs (by rw [if_pos (by simp [hok.1, hok.2.1, hok.2.2])]; exact hq)
theorem w9F {r1 r2 r3 r4 : Option Ref} {c1 c2 c3 c4 : Nat} {g1 g2 g3 g4 : Option Nat} {s : Str} {k : Int} (a : StrV h (.sl r1 s.pts.length c1 g1) (.sl r2 s.bef.length c2 g2) (.sl r3 s.fixed.length c3 g3) (.sl r4 s.lens.length c4 g4) s) (hs : s.pts.length < 2 ^ 40) (hok : s.ok = false ∨ ¬ (0 ≤ k ∧ k ≤ 1000)) (hq : Q (.tup [.agg zeroCells, .b false]) h) : W Φ 9 [strAV (.sl r1 s.pts.length c1 g1) (.sl r2 s.bef.length c2 g2) (.sl r3 s.fixed.length c3 g3) (.sl r4 s.lens.length c4 g4) s, i64 k] h Q := w9 a hs (by rw [if_neg (by rcases hok with hok | hok <;> simp_all)]; exact hq)
/-- spec.RunString -/
theorem w23T {r1 r2 r3 r4 : Option Ref} {c1 c2 c3 c4 : Nat} {g1 g2 g3 g4 : Option Nat} {s : Str} {k : Int} (a : StrV h (.sl r1 s.pts.length c1 g1) (.sl r2 s.bef.length c2 g2) (.sl r3 s.fixed.length c3 g3) (.sl r4 s.lens.length c4 g4) s) (hs : s.pts.length < 2 ^ 40) (hok : s.ok = true ∧ 0 ≤ k ∧ k ≤ 1000) (hq : Q (.tup [strOut h.length true (stepN k.toNat s), .b true]) (h ++ strBlk (stepN k.toNat s))) : W Φ 23 [strAV (.sl r1 s.pts.length c1 g1) (.sl r2 s.bef.length c2 g2) (.sl r3 s.fixed.length c3 g3) (.sl r4 s.lens.length c4 g4) s, i64 k] h Q := by
  refine W.freshL (F := F23) rfl ?_
  refine EvC.seq ?_
  refine EvC.reg ?_
  refine EvOps.boxL rfl rfl rfl rfl rfl ?_
  refine EvOps.allocL rfl rfl ?_
  refine EvOps.step (n := 0) rfl ?_
  refine EvOps.nil ?_
  simp only [KP, KH, KC, ↓reduceIte, Nat.reduceEqDiff, Nat.reduceAdd]
  refine EvC.seq ?_
  refine EvC.seq ?_
  refine EvC.reg ?_
  refine EvOps.call rfl rfl ?_
  refine w43 (s := s) (bs := h.length + 0) (by rw [get_new]; rfl) (by decide) hs ?_
  refine EvOps.step (n := 0) rfl ?_
  refine EvOps.stepB (n := 0) rfl (fun hc => ?_) (fun hc => ?_)
  · first
     | cases hc; done
     | refine EvOps.step (n := 0) rfl ?_
       first
        | (refine EvOps.call rfl rfl ?_; refine w60 ?_)
        | refine EvOps.step (n := 0) rfl ?_
       refine EvOps.step (n := 0) rfl ?_
       refine EvOps.step (n := 0) rfl ?_
       refine EvOps.nil ?_
       simp only [KP, KH, KC, ↓reduceIte, Nat.reduceEqDiff, Nat.reduceAdd]
       refine EvC.condY rfl ?_
       refine EvC.seq ?_
       refine EvC.reg ?_
       refine EvOps.step (n := 0) rfl ?_
       first | refine EvOps.stL rfl rfl rfl rfl ?_ | refine EvOps.stLm rfl rfl rfl rfl (by simp only [List.length_set, S2_len]) ?_ | refine EvOps.stH rfl rfl rfl (by assumption) ?_
       refine EvOps.step (n := 0) rfl ?_
       refine EvOps.nil ?_
       simp only [KP, KH, KC, ↓reduceIte, Nat.reduceEqDiff, Nat.reduceAdd]
       refine EvC.ret ?_
       refine Res.finR (show resVals _ _ [.cells 4 9, .tmp 5] = _ from by simp only [resVals, ARes.val, Env.get, rdn_new, rd_new, ↓reduceIte, Nat.reduceEqDiff]; rfl) ?_
       first
         | (exfalso; simp [hok] at hc; done)
         | (exfalso; simp [hok] at hc; omega)
         | (have hil : i = k.toNat := by simp at hc; omega
            subst hil
            have A3 : StrAt (h ++ (⟨[(.sl r1 s.pts.length c1 g1), (.sl r2 s.bef.length c2 g2), (.sl r3 s.fixed.length c3 g3), (.sl r4 s.lens.length c4 g4), f32 s.fall.x, f32 s.fall.y, f32 s.fall.z, f32 s.damp, i64 s.passes], .own⟩ :: ⟨strCells (h.length + p) true s, .own⟩ :: ⟨fl cV s.pts, .own⟩ :: ⟨fl cV s.bef, .own⟩ :: ⟨fl cB s.fixed, .own⟩ :: ⟨fl cF s.lens, .own⟩ :: ⟨strCells (h.length + p) true s, .own⟩ :: l)) (h.length + p) (stepN k.toNat s) := by
              have e : h ++ (⟨[(.sl r1 s.pts.length c1 g1), (.sl r2 s.bef.length c2 g2), (.sl r3 s.fixed.length c3 g3), (.sl r4 s.lens.length c4 g4), f32 s.fall.x, f32 s.fall.y, f32 s.fall.z, f32 s.damp, i64 s.passes], .own⟩ :: ⟨strCells (h.length + p) true s, .own⟩ :: ⟨fl cV s.pts, .own⟩ :: ⟨fl cV s.bef, .own⟩ :: ⟨fl cB s.fixed, .own⟩ :: ⟨fl cF s.lens, .own⟩ :: ⟨strCells (h.length + p) true s, .own⟩ :: l) = (h ++ (⟨[(.sl r1 s.pts.length c1 g1), (.sl r2 s.bef.length c2 g2), (.sl r3 s.fixed.length c3 g3), (.sl r4 s.lens.length c4 g4), f32 s.fall.x, f32 s.fall.y, f32 s.fall.z, f32 s.damp, i64 s.passes], .own⟩ :: ⟨zeroCells, .own⟩ :: ⟨fl cV s.pts, .own⟩ :: ⟨fl cV s.bef, .own⟩ :: ⟨fl cB s.fixed, .own⟩ :: ⟨fl cF s.lens, .own⟩ :: ⟨strCells (h.length + p) true s, .own⟩ :: l)).set (h.length + 1) ⟨strCells (h.length + p) true s, .own⟩ := by rw [set_new]; rfl
              rw [e]
              exact ⟨by rw [List.getElem?_set_ne (by omega)]; exact A.pts, by rw [List.getElem?_set_ne (by omega)]; exact A.bef, by rw [List.getElem?_set_ne (by omega)]; exact A.fixed, by rw [List.getElem?_set_ne (by omega)]; exact A.lens⟩
            obtain ⟨z1, z2, z3, z4⟩ := A3
            rw [get_new] at z1
            rw [Nat.add_assoc, get_new] at z2 z3 z4
            refine ⟨List.prefix_append _ _, Neat.new [(p, fl cV (stepN k.toNat s).pts), (p + 1, fl cV (stepN k.toNat s).bef), (p + 2, fl cB (stepN k.toNat s).fixed), (p + 3, fl cF (stepN k.toNat s).lens)] (Chg.refl h) (by simp [AV.refs, refsL, pack, if_new, Nat.add_assoc]) (by simp) (by intro q hq; simp only [List.mem_cons, List.not_mem_nil, or_false] at hq; rcases hq with rfl | rfl | rfl | rfl <;> first | exact ⟨z1, by simp [fl_lim]⟩ | exact ⟨z2, by simp [fl_lim]⟩ | exact ⟨z3, by simp [fl_lim]⟩ | exact ⟨z4, by simp [fl_lim]⟩) ?_⟩
            rw [show strOut h.length true (stepN k.toNat s) = strOut h.length true s from congrArg AV.agg (strCells_stepN h.length true s k.toNat)] at hq
            simp [AV.ren, renL, reno_new, reno_new0, pack, List.idxOf_cons, grOf, beq_add1, beq_add2, beq_add3, Nat.add_assoc]
            exact hq)
  · first
     | cases hc; done
     | refine EvOps.step (n := 0) rfl ?_
       first
        | (refine EvOps.call rfl rfl ?_; refine w60 ?_)
        | refine EvOps.step (n := 0) rfl ?_
       refine EvOps.step (n := 0) rfl ?_
       refine EvOps.step (n := 0) rfl ?_
       refine EvOps.nil ?_
       simp only [KP, KH, KC, ↓reduceIte, Nat.reduceEqDiff, Nat.reduceAdd]
       refine EvC.condS rfl (fun hc => ?_) (fun hc => ?_)
       · first
          | cases hc; done
          | refine EvC.seq ?_
            refine EvC.reg ?_
            refine EvOps.step (n := 0) rfl ?_
            first | refine EvOps.stL rfl rfl rfl rfl ?_ | refine EvOps.stLm rfl rfl rfl rfl (by simp only [List.length_set, S2_len]) ?_ | refine EvOps.stH rfl rfl rfl (by assumption) ?_
            refine EvOps.step (n := 0) rfl ?_
            refine EvOps.nil ?_
            simp only [KP, KH, KC, ↓reduceIte, Nat.reduceEqDiff, Nat.reduceAdd]
            refine EvC.ret ?_
            refine Res.finR (show resVals _ _ [.cells 4 9, .tmp 5] = _ from by simp only [resVals, ARes.val, Env.get, rdn_new, rd_new, ↓reduceIte, Nat.reduceEqDiff]; rfl) ?_
            first
              | (exfalso; simp [hok] at hc; done)
              | (exfalso; simp [hok] at hc; omega)
              | (have hil : i = k.toNat := by simp at hc; omega
                 subst hil
                 have A3 : StrAt (h ++ (⟨[(.sl r1 s.pts.length c1 g1), (.sl r2 s.bef.length c2 g2), (.sl r3 s.fixed.length c3 g3), (.sl r4 s.lens.length c4 g4), f32 s.fall.x, f32 s.fall.y, f32 s.fall.z, f32 s.damp, i64 s.passes], .own⟩ :: ⟨strCells (h.length + p) true s, .own⟩ :: ⟨fl cV s.pts, .own⟩ :: ⟨fl cV s.bef, .own⟩ :: ⟨fl cB s.fixed, .own⟩ :: ⟨fl cF s.lens, .own⟩ :: ⟨strCells (h.length + p) true s, .own⟩ :: l)) (h.length + p) (stepN k.toNat s) := by
                   have e : h ++ (⟨[(.sl r1 s.pts.length c1 g1), (.sl r2 s.bef.length c2 g2), (.sl r3 s.fixed.length c3 g3), (.sl r4 s.lens.length c4 g4), f32 s.fall.x, f32 s.fall.y, f32 s.fall.z, f32 s.damp, i64 s.passes], .own⟩ :: ⟨strCells (h.length + p) true s, .own⟩ :: ⟨fl cV s.pts, .own⟩ :: ⟨fl cV s.bef, .own⟩ :: ⟨fl cB s.fixed, .own⟩ :: ⟨fl cF s.lens, .own⟩ :: ⟨strCells (h.length + p) true s, .own⟩ :: l) = (h ++ (⟨[(.sl r1 s.pts.length c1 g1), (.sl r2 s.bef.length c2 g2), (.sl r3 s.fixed.length c3 g3), (.sl r4 s.lens.length c4 g4), f32 s.fall.x, f32 s.fall.y, f32 s.fall.z, f32 s.damp, i64 s.passes], .own⟩ :: ⟨zeroCells, .own⟩ :: ⟨fl cV s.pts, .own⟩ :: ⟨fl cV s.bef, .own⟩ :: ⟨fl cB s.fixed, .own⟩ :: ⟨fl cF s.lens, .own⟩ :: ⟨strCells (h.length + p) true s, .own⟩ :: l)).set (h.length + 1) ⟨strCells (h.length + p) true s, .own⟩ := by rw [set_new]; rfl
                   rw [e]
                   exact ⟨by rw [List.getElem?_set_ne (by omega)]; exact A.pts, by rw [List.getElem?_set_ne (by omega)]; exact A.bef, by rw [List.getElem?_set_ne (by omega)]; exact A.fixed, by rw [List.getElem?_set_ne (by omega)]; exact A.lens⟩
                 obtain ⟨z1, z2, z3, z4⟩ := A3
                 rw [get_new] at z1
                 rw [Nat.add_assoc, get_new] at z2 z3 z4
                 refine ⟨List.prefix_append _ _, Neat.new [(p, fl cV (stepN k.toNat s).pts), (p + 1, fl cV (stepN k.toNat s).bef), (p + 2, fl cB (stepN k.toNat s).fixed), (p + 3, fl cF (stepN k.toNat s).lens)] (Chg.refl h) (by simp [AV.refs, refsL, pack, if_new, Nat.add_assoc]) (by simp) (by intro q hq; simp only [List.mem_cons, List.not_mem_nil, or_false] at hq; rcases hq with rfl | rfl | rfl | rfl <;> first | exact ⟨z1, by simp [fl_lim]⟩ | exact ⟨z2, by simp [fl_lim]⟩ | exact ⟨z3, by simp [fl_lim]⟩ | exact ⟨z4, by simp [fl_lim]⟩) ?_⟩
                 rw [show strOut h.length true (stepN k.toNat s) = strOut h.length true s from congrArg AV.agg (strCells_stepN h.length true s k.toNat)] at hq
                 simp [AV.ren, renL, reno_new, reno_new0, pack, List.idxOf_cons, grOf, beq_add1, beq_add2, beq_add3, Nat.add_assoc]
                 exact hq)
       · first
          | cases hc; done
          | refine EvC.skip ?_
            refine EvC.seq ?_
            refine EvC.reg ?_
            refine EvOps.call rfl rfl ?_
            have ok : s.Ok := (Str.ok_iff s).1 hok.1
            refine w61 (s := s) (bs := h.length + 0) (by rw [get_new]; rfl) (by decide) (StrV.app _ a) ok ?_
            simp only [List.append_assoc, List.cons_append, List.nil_append, List.length_append, List.length_cons, List.length_nil, Nat.zero_add, Nat.reduceAdd]
            refine EvOps.allocL rfl rfl ?_
            first | refine EvOps.stL rfl rfl rfl rfl ?_ | refine EvOps.stLm rfl rfl rfl rfl (by simp only [List.length_set, S2_len]) ?_ | refine EvOps.stH rfl rfl rfl (by assumption) ?_
            refine EvOps.nil ?_
            simp only [KP, KH, KC, ↓reduceIte, Nat.reduceEqDiff, Nat.reduceAdd]
            refine EvC.seq ?_
            refine EvC.seq ?_
            refine EvC.reg ?_
            refine EvOps.step (n := 0) rfl ?_
            refine EvOps.nil ?_
            simp only [KP, KH, KC, ↓reduceIte, Nat.reduceEqDiff, Nat.reduceAdd]
            refine EvC.block ?_
            refine EvC.loop (fun c e hh => ∃ (i p : Nat) (l : H), c = k.toNat - i ∧ i ≤ k.toNat ∧ 2 ≤ p ∧ StrAt (h ++ (⟨[(.sl r1 s.pts.length c1 g1), (.sl r2 s.bef.length c2 g2), (.sl r3 s.fixed.length c3 g3), (.sl r4 s.lens.length c4 g4), f32 s.fall.x, f32 s.fall.y, f32 s.fall.z, f32 s.damp, i64 s.passes], .own⟩ :: ⟨zeroCells, .own⟩ :: ⟨fl cV s.pts, .own⟩ :: ⟨fl cV s.bef, .own⟩ :: ⟨fl cB s.fixed, .own⟩ :: ⟨fl cF s.lens, .own⟩ :: ⟨strCells (h.length + p) true s, .own⟩ :: l)) (h.length + p) (stepN i s) ∧ hh = h ++ (⟨[(.sl r1 s.pts.length c1 g1), (.sl r2 s.bef.length c2 g2), (.sl r3 s.fixed.length c3 g3), (.sl r4 s.lens.length c4 g4), f32 s.fall.x, f32 s.fall.y, f32 s.fall.z, f32 s.damp, i64 s.passes], .own⟩ :: ⟨zeroCells, .own⟩ :: ⟨fl cV s.pts, .own⟩ :: ⟨fl cV s.bef, .own⟩ :: ⟨fl cB s.fixed, .own⟩ :: ⟨fl cF s.lens, .own⟩ :: ⟨strCells (h.length + p) true s, .own⟩ :: l) ∧ e = [(1, i64 k), (4, .p (some ⟨h.length + 1, 0⟩)), (5, .b false), (6, .p (some ⟨h.length + 6, 0⟩)), (7, i64 i)]) (k := k.toNat) ⟨0, 2, [], by simp, by simp, by omega, ⟨by rw [get_new]; rfl, by rw [Nat.add_assoc, get_new]; rfl, by rw [Nat.add_assoc, get_new]; rfl, by rw [Nat.add_assoc, get_new]; rfl⟩, rfl, rfl⟩ ?_
            rintro c e hh ⟨i, p, l, rfl, hi, hp, A, rfl, rfl⟩
            refine EvC.seq ?_
            refine EvC.seq ?_
            refine EvC.reg ?_
            refine EvOps.step (n := 0) rfl ?_
            refine EvOps.step (n := 0) rfl ?_
            refine EvOps.step (n := 0) rfl ?_
            refine EvOps.nil ?_
            simp only [KP, KH, KC, ↓reduceIte, Nat.reduceEqDiff, Nat.reduceAdd]
            refine EvC.condS rfl (fun hc => ?_) (fun hc => ?_)
            · first
               | cases hc; done
               | refine EvC.skip ?_
                 refine EvC.seq ?_
                 refine EvC.block ?_
                 refine EvC.reg ?_
                 refine EvOps.call rfl rfl ?_
                 have hb6 : (h ++ (⟨[(.sl r1 s.pts.length c1 g1), (.sl r2 s.bef.length c2 g2), (.sl r3 s.fixed.length c3 g3), (.sl r4 s.lens.length c4 g4), f32 s.fall.x, f32 s.fall.y, f32 s.fall.z, f32 s.damp, i64 s.passes], .own⟩ :: ⟨zeroCells, .own⟩ :: ⟨fl cV s.pts, .own⟩ :: ⟨fl cV s.bef, .own⟩ :: ⟨fl cB s.fixed, .own⟩ :: ⟨fl cF s.lens, .own⟩ :: ⟨strCells (h.length + p) true s, .own⟩ :: l))[h.length + 6]? = some ⟨strCells (h.length + p) true (stepN i s), .own⟩ := by rw [strCells_stepN, get_new]; rfl
                 have hlen : (h ++ (⟨[(.sl r1 s.pts.length c1 g1), (.sl r2 s.bef.length c2 g2), (.sl r3 s.fixed.length c3 g3), (.sl r4 s.lens.length c4 g4), f32 s.fall.x, f32 s.fall.y, f32 s.fall.z, f32 s.damp, i64 s.passes], .own⟩ :: ⟨zeroCells, .own⟩ :: ⟨fl cV s.pts, .own⟩ :: ⟨fl cV s.bef, .own⟩ :: ⟨fl cB s.fixed, .own⟩ :: ⟨fl cF s.lens, .own⟩ :: ⟨strCells (h.length + p) true s, .own⟩ :: l)).length = h.length + (7 + l.length) := by simp only [List.length_append, List.length_cons, List.length_nil] <;> omega
                 have A2 : StrAt (h ++ (⟨[(.sl r1 s.pts.length c1 g1), (.sl r2 s.bef.length c2 g2), (.sl r3 s.fixed.length c3 g3), (.sl r4 s.lens.length c4 g4), f32 s.fall.x, f32 s.fall.y, f32 s.fall.z, f32 s.damp, i64 s.passes], .own⟩ :: ⟨zeroCells, .own⟩ :: ⟨fl cV s.pts, .own⟩ :: ⟨fl cV s.bef, .own⟩ :: ⟨fl cB s.fixed, .own⟩ :: ⟨fl cF s.lens, .own⟩ :: ⟨strCells (h.length + (7 + l.length)) true s, .own⟩ :: (l ++ strBlk (stepN i s).step))) (h.length + (7 + l.length)) (stepN (i + 1) s) := by
                   have := StrAt.new h (stepN (i + 1) s) (⟨[(.sl r1 s.pts.length c1 g1), (.sl r2 s.bef.length c2 g2), (.sl r3 s.fixed.length c3 g3), (.sl r4 s.lens.length c4 g4), f32 s.fall.x, f32 s.fall.y, f32 s.fall.z, f32 s.damp, i64 s.passes], .own⟩ :: ⟨zeroCells, .own⟩ :: ⟨fl cV s.pts, .own⟩ :: ⟨fl cV s.bef, .own⟩ :: ⟨fl cB s.fixed, .own⟩ :: ⟨fl cF s.lens, .own⟩ :: ⟨strCells (h.length + (7 + l.length)) true s, .own⟩ :: l) [] (k := 7 + l.length) (by simp only [List.length_append, List.length_cons, List.length_nil] <;> omega)
                   simp only [List.append_nil, List.cons_append] at this
                   exact this
                 refine w44 (s := stepN i s) (bs := h.length + 6) hb6 (by decide) (A.v true) (Str.Ok.stepN ok i) ?_
                 rw [hlen, show strOut (h.length + (7 + l.length)) true (stepN i s).step = strOut (h.length + (7 + l.length)) true s from congrArg AV.agg (strCells_stepN _ true s (i + 1))]
                 simp only [List.append_assoc, List.cons_append, List.nil_append, List.length_append, List.length_cons, List.length_nil, Nat.zero_add, Nat.reduceAdd]
                 first | refine EvOps.stL rfl rfl rfl rfl ?_ | refine EvOps.stLm rfl rfl rfl rfl (by simp only [List.length_set, S2_len]) ?_ | refine EvOps.stH rfl rfl rfl (by assumption) ?_
                 refine EvOps.nil ?_
                 simp only [KP, KH, KC, ↓reduceIte, Nat.reduceEqDiff, Nat.reduceAdd]
                 refine EvC.reg ?_
                 refine EvOps.step (n := 0) rfl ?_
                 first | refine EvOps.addI rfl rfl (by omega) ?_ | refine EvOps.step (n := 0) rfl ?_
                 refine EvOps.step (n := 0) rfl ?_
                 refine EvOps.nil ?_
                 simp only [KP, KH, KC, ↓reduceIte, Nat.reduceEqDiff, Nat.reduceAdd]
                 exact ⟨k.toNat - (i + 1), by simp at hc; omega, i + 1, 7 + l.length, l ++ strBlk (stepN i s).step, (by first | rfl | trivial), by simp at hc; omega, by omega, A2, (by first | rfl | trivial), (by first | rfl | trivial)⟩
            · first
               | cases hc; done
               | refine EvC.exit ?_
                 refine EvC.seq ?_
                 refine EvC.reg ?_
                 first | refine EvOps.ldnL rfl rfl rfl ?_ | refine EvOps.ldnLm rfl rfl rfl (by simp only [List.length_set, S2_len]) ?_ | refine EvOps.ldnH rfl rfl (by assumption) ?_
                 first | refine EvOps.stL rfl rfl rfl rfl ?_ | refine EvOps.stLm rfl rfl rfl rfl (by simp only [List.length_set, S2_len]) ?_ | refine EvOps.stH rfl rfl rfl (by assumption) ?_
                 refine EvOps.step (n := 0) rfl ?_
                 refine EvOps.nil ?_
                 simp only [KP, KH, KC, ↓reduceIte, Nat.reduceEqDiff, Nat.reduceAdd]
                 refine EvC.ret ?_
                 refine Res.finR (show resVals _ _ [.cells 4 9, .tmp 5] = _ from by simp only [resVals, ARes.val, Env.get, rdn_new, rd_new, ↓reduceIte, Nat.reduceEqDiff]; rfl) ?_
                 first
                   | (exfalso; simp [hok] at hc; done)
                   | (exfalso; simp [hok] at hc; omega)
                   | (have hil : i = k.toNat := by simp at hc; omega
                      subst hil
                      have A3 : StrAt (h ++ (⟨[(.sl r1 s.pts.length c1 g1), (.sl r2 s.bef.length c2 g2), (.sl r3 s.fixed.length c3 g3), (.sl r4 s.lens.length c4 g4), f32 s.fall.x, f32 s.fall.y, f32 s.fall.z, f32 s.damp, i64 s.passes], .own⟩ :: ⟨strCells (h.length + p) true s, .own⟩ :: ⟨fl cV s.pts, .own⟩ :: ⟨fl cV s.bef, .own⟩ :: ⟨fl cB s.fixed, .own⟩ :: ⟨fl cF s.lens, .own⟩ :: ⟨strCells (h.length + p) true s, .own⟩ :: l)) (h.length + p) (stepN k.toNat s) := by
                        have e : h ++ (⟨[(.sl r1 s.pts.length c1 g1), (.sl r2 s.bef.length c2 g2), (.sl r3 s.fixed.length c3 g3), (.sl r4 s.lens.length c4 g4), f32 s.fall.x, f32 s.fall.y, f32 s.fall.z, f32 s.damp, i64 s.passes], .own⟩ :: ⟨strCells (h.length + p) true s, .own⟩ :: ⟨fl cV s.pts, .own⟩ :: ⟨fl cV s.bef, .own⟩ :: ⟨fl cB s.fixed, .own⟩ :: ⟨fl cF s.lens, .own⟩ :: ⟨strCells (h.length + p) true s, .own⟩ :: l) = (h ++ (⟨[(.sl r1 s.pts.length c1 g1), (.sl r2 s.bef.length c2 g2), (.sl r3 s.fixed.length c3 g3), (.sl r4 s.lens.length c4 g4), f32 s.fall.x, f32 s.fall.y, f32 s.fall.z, f32 s.damp, i64 s.passes], .own⟩ :: ⟨zeroCells, .own⟩ :: ⟨fl cV s.pts, .own⟩ :: ⟨fl cV s.bef, .own⟩ :: ⟨fl cB s.fixed, .own⟩ :: ⟨fl cF s.lens, .own⟩ :: ⟨strCells (h.length + p) true s, .own⟩ :: l)).set (h.length + 1) ⟨strCells (h.length + p) true s, .own⟩ := by rw [set_new]; rfl
                        rw [e]
                        exact ⟨by rw [List.getElem?_set_ne (by omega)]; exact A.pts, by rw [List.getElem?_set_ne (by omega)]; exact A.bef, by rw [List.getElem?_set_ne (by omega)]; exact A.fixed, by rw [List.getElem?_set_ne (by omega)]; exact A.lens⟩
                      obtain ⟨z1, z2, z3, z4⟩ := A3
                      rw [get_new] at z1
                      rw [Nat.add_assoc, get_new] at z2 z3 z4
                      refine ⟨List.prefix_append _ _, Neat.new [(p, fl cV (stepN k.toNat s).pts), (p + 1, fl cV (stepN k.toNat s).bef), (p + 2, fl cB (stepN k.toNat s).fixed), (p + 3, fl cF (stepN k.toNat s).lens)] (Chg.refl h) (by simp [AV.refs, refsL, pack, if_new, Nat.add_assoc]) (by simp) (by intro q hq; simp only [List.mem_cons, List.not_mem_nil, or_false] at hq; rcases hq with rfl | rfl | rfl | rfl <;> first | exact ⟨z1, by simp [fl_lim]⟩ | exact ⟨z2, by simp [fl_lim]⟩ | exact ⟨z3, by simp [fl_lim]⟩ | exact ⟨z4, by simp [fl_lim]⟩) ?_⟩
                      rw [show strOut h.length true (stepN k.toNat s) = strOut h.length true s from congrArg AV.agg (strCells_stepN h.length true s k.toNat)] at hq
                      simp [AV.ren, renL, reno_new, reno_new0, pack, List.idxOf_cons, grOf, beq_add1, beq_add2, beq_add3, Nat.add_assoc]
                      exact hq)
/-- spec.RunString -/
theorem w23F {r1 r2 r3 r4 : Option Ref} {c1 c2 c3 c4 : Nat} {g1 g2 g3 g4 : Option Nat} {s : Str} {k : Int} (a : StrV h (.sl r1 s.pts.length c1 g1) (.sl r2 s.bef.length c2 g2) (.sl r3 s.fixed.length c3 g3) (.sl r4 s.lens.length c4 g4) s) (hs : s.pts.length < 2 ^ 40) (hok : s.ok = false ∨ ¬ (0 ≤ k ∧ k ≤ 1000)) (hq : Q (.tup [.agg zeroCells, .b false]) h) : W Φ 23 [strAV (.sl r1 s.pts.length c1 g1) (.sl r2 s.bef.length c2 g2) (.sl r3 s.fixed.length c3 g3) (.sl r4 s.lens.length c4 g4) s, i64 k] h Q := by
  refine W.freshL (F := F23) rfl ?_
  refine EvC.seq ?_
  refine EvC.reg ?_
  refine EvOps.boxL rfl rfl rfl rfl rfl ?_
  refine EvOps.allocL rfl rfl ?_
  refine EvOps.step (n := 0) rfl ?_
  refine EvOps.nil ?_
  simp only [KP, KH, KC, ↓reduceIte, Nat.reduceEqDiff, Nat.reduceAdd]
  refine EvC.seq ?_
  refine EvC.seq ?_
  refine EvC.reg ?_
  refine EvOps.call rfl rfl ?_
  refine w43 (s := s) (bs := h.length + 0) (by rw [get_new]; rfl) (by decide) hs ?_
  refine EvOps.step (n := 0) rfl ?_
  refine EvOps.stepB (n := 0) rfl (fun hc => ?_) (fun hc => ?_)
  · first
     | cases hc; done
     | refine EvOps.step (n := 0) rfl ?_
       first
        | (refine EvOps.call rfl rfl ?_; refine w60 ?_)
        | refine EvOps.step (n := 0) rfl ?_
       refine EvOps.step (n := 0) rfl ?_
       refine EvOps.step (n := 0) rfl ?_
       refine EvOps.nil ?_
       simp only [KP, KH, KC, ↓reduceIte, Nat.reduceEqDiff, Nat.reduceAdd]
       refine EvC.condY rfl ?_
       refine EvC.seq ?_
       refine EvC.reg ?_
       refine EvOps.step (n := 0) rfl ?_
       first | refine EvOps.stL rfl rfl rfl rfl ?_ | refine EvOps.stLm rfl rfl rfl rfl (by simp only [List.length_set, S2_len]) ?_ | refine EvOps.stH rfl rfl rfl (by assumption) ?_
       refine EvOps.step (n := 0) rfl ?_
       refine EvOps.nil ?_
       simp only [KP, KH, KC, ↓reduceIte, Nat.reduceEqDiff, Nat.reduceAdd]
       refine EvC.ret ?_
       refine Res.finR (show resVals _ _ [.cells 4 9, .tmp 5] = _ from by simp only [resVals, ARes.val, Env.get, rdn_new, rd_new, ↓reduceIte, Nat.reduceEqDiff]; rfl) ?_
       exact ⟨List.prefix_append _ _, Neat.no (by rfl) (Chg.refl h) hq⟩
  · first
     | cases hc; done
     | refine EvOps.step (n := 0) rfl ?_
       first
        | (refine EvOps.call rfl rfl ?_; refine w60 ?_)
        | refine EvOps.step (n := 0) rfl ?_
       refine EvOps.step (n := 0) rfl ?_
       refine EvOps.step (n := 0) rfl ?_
       refine EvOps.nil ?_
       simp only [KP, KH, KC, ↓reduceIte, Nat.reduceEqDiff, Nat.reduceAdd]
       refine EvC.condS rfl (fun hc => ?_) (fun hc => ?_)
       · first
          | cases hc; done
          | refine EvC.seq ?_
            refine EvC.reg ?_
            refine EvOps.step (n := 0) rfl ?_
            first | refine EvOps.stL rfl rfl rfl rfl ?_ | refine EvOps.stLm rfl rfl rfl rfl (by simp only [List.length_set, S2_len]) ?_ | refine EvOps.stH rfl rfl rfl (by assumption) ?_
            refine EvOps.step (n := 0) rfl ?_
            refine EvOps.nil ?_
            simp only [KP, KH, KC, ↓reduceIte, Nat.reduceEqDiff, Nat.reduceAdd]
            refine EvC.ret ?_
            refine Res.finR (show resVals _ _ [.cells 4 9, .tmp 5] = _ from by simp only [resVals, ARes.val, Env.get, rdn_new, rd_new, ↓reduceIte, Nat.reduceEqDiff]; rfl) ?_
            exact ⟨List.prefix_append _ _, Neat.no (by rfl) (Chg.refl h) hq⟩
       · first
          | cases hc; done
          | refine EvC.skip ?_
            refine EvC.seq ?_
            refine EvC.reg ?_
            exfalso
            rcases hok with hok | hok <;> simp_all <;> omega
end
end Go.V.Try
