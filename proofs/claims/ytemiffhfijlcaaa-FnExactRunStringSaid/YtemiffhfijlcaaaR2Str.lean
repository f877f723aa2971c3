import Derived.Test.YtemiffhfijlcaaaR2Def
import Derived.Test.YtemiffhfijlcaaaR2Eq
import Derived.Test.YtemiffhfijlcaaaR2To
import Derived.Test.YtemiffhfijlcaaaR2Mark
set_option linter.unusedSimpArgs false
set_option linter.unusedVariables false
set_option linter.unusedSectionVars false
/-! Strings: sizes, copies, comparison, marks. -/
namespace Go.V.Try
open Go Go.V
section
variable {h : H} {Q : AV → H → Prop}
/-- slices.Clone[[]impl.Vector,impl.Vector] -/
theorem w36 {va : AV} {xs : List Vec} (ha : Vw h cV 3 va xs) (hne : xs ≠ []) (hs : xs.length < 2 ^ 40) (hq : Q (.sl (some ⟨h.length, 0⟩) xs.length xs.length (some 3)) (h ++ [⟨fl cV xs, .own⟩])) : W Φ 36 [va] h Q := by
  have ha0 := ha
  obtain ⟨ra, ca, ga, rfl, ha, _⟩ := ha
  obtain ⟨q, rfl, _⟩ := ha 0 (List.length_pos_iff.2 hne)
  refine W.freshL (F := F36) rfl ?_
  refine EvC.seq ?_
  refine EvC.reg ?_
  refine EvOps.step (n := 0) rfl ?_
  refine EvOps.nil ?_
  simp only [KP, KH, KC, ↓reduceIte, Nat.reduceEqDiff, Nat.reduceAdd]
  refine EvC.seq ?_
  refine EvC.seq ?_
  refine EvC.reg ?_
  refine EvOps.step (n := 0) rfl ?_
  refine EvOps.step (n := 0) rfl ?_
  refine EvOps.nil ?_
  simp only [KP, KH, KC, ↓reduceIte, Nat.reduceEqDiff, Nat.reduceAdd]
  refine EvC.condS rfl (fun hc => ?_) (fun hc => ?_)
  · first
     | cases hc; done
     | refine EvC.seq ?_
       refine EvC.reg ?_
       refine EvOps.step (n := 0) rfl ?_
       refine EvOps.nil ?_
       simp only [KP, KH, KC, ↓reduceIte, Nat.reduceEqDiff, Nat.reduceAdd]
       refine EvC.ret ?_
       refine Res.finR rfl ?_
       refine ⟨List.prefix_append _ _, Neat.new [(1, fl cV xs)] (Chg.refl h) (by simp [AV.refs, pack, if_new]) (by simp) (by simp [fl_lim]) ?_⟩
       simp [AV.ren, reno_new, reno_new0, pack]
       exact hq
  · first
     | cases hc; done
     | refine EvC.skip ?_
       refine EvC.seq ?_
       refine EvC.reg ?_
       refine EvOps.bsG [] rfl rfl rfl rfl rfl ?_
       refine EvOps.step (n := 0) rfl ?_
       refine EvOps.appE cV rfl rfl (Vw.app _ ha0).src hne (by rw [rdn_new]; rfl) (by omega) rfl ?_
       refine EvOps.step (n := 0) rfl ?_
       refine EvOps.nil ?_
       simp only [KP, KH, KC, ↓reduceIte, Nat.reduceEqDiff, Nat.reduceAdd]
       refine EvC.ret ?_
       refine Res.finR rfl ?_
       refine ⟨List.prefix_append _ _, Neat.new [(1, fl cV xs)] (Chg.refl h) (by simp [AV.refs, pack, if_new]) (by simp) (by simp [fl_lim]) ?_⟩
       simp [AV.ren, reno_new, reno_new0, pack]
       exact hq
/-- slices.Clone[[]bool,bool] -/
theorem w67 {va : AV} {xs : List Bool} (ha : Vw h cB 1 va xs) (hne : xs ≠ []) (hs : xs.length < 2 ^ 40) (hq : Q (.sl (some ⟨h.length, 0⟩) xs.length xs.length (some 1)) (h ++ [⟨fl cB xs, .own⟩])) : W Φ 67 [va] h Q := by
  have ha0 := ha
  obtain ⟨ra, ca, ga, rfl, ha, _⟩ := ha
  obtain ⟨q, rfl, _⟩ := ha 0 (List.length_pos_iff.2 hne)
  refine W.freshL (F := F67) rfl ?_
  refine EvC.seq ?_
  refine EvC.reg ?_
  refine EvOps.step (n := 0) rfl ?_
  refine EvOps.nil ?_
  simp only [KP, KH, KC, ↓reduceIte, Nat.reduceEqDiff, Nat.reduceAdd]
  refine EvC.seq ?_
  refine EvC.seq ?_
  refine EvC.reg ?_
  refine EvOps.step (n := 0) rfl ?_
  refine EvOps.step (n := 0) rfl ?_
  refine EvOps.nil ?_
  simp only [KP, KH, KC, ↓reduceIte, Nat.reduceEqDiff, Nat.reduceAdd]
  refine EvC.condS rfl (fun hc => ?_) (fun hc => ?_)
  · first
     | cases hc; done
     | refine EvC.seq ?_
       refine EvC.reg ?_
       refine EvOps.step (n := 0) rfl ?_
       refine EvOps.nil ?_
       simp only [KP, KH, KC, ↓reduceIte, Nat.reduceEqDiff, Nat.reduceAdd]
       refine EvC.ret ?_
       refine Res.finR rfl ?_
       refine ⟨List.prefix_append _ _, Neat.new [(1, fl cB xs)] (Chg.refl h) (by simp [AV.refs, pack, if_new]) (by simp) (by simp [fl_lim]) ?_⟩
       simp [AV.ren, reno_new, reno_new0, pack]
       exact hq
  · first
     | cases hc; done
     | refine EvC.skip ?_
       refine EvC.seq ?_
       refine EvC.reg ?_
       refine EvOps.bsG [] rfl rfl rfl rfl rfl ?_
       refine EvOps.step (n := 0) rfl ?_
       refine EvOps.appE cB rfl rfl (Vw.app _ ha0).src hne (by rw [rdn_new]; rfl) (by omega) rfl ?_
       refine EvOps.step (n := 0) rfl ?_
       refine EvOps.nil ?_
       simp only [KP, KH, KC, ↓reduceIte, Nat.reduceEqDiff, Nat.reduceAdd]
       refine EvC.ret ?_
       refine Res.finR rfl ?_
       refine ⟨List.prefix_append _ _, Neat.new [(1, fl cB xs)] (Chg.refl h) (by simp [AV.refs, pack, if_new]) (by simp) (by simp [fl_lim]) ?_⟩
       simp [AV.ren, reno_new, reno_new0, pack]
       exact hq
/-- slices.Clone[[]float32,float32] -/
theorem w68 {va : AV} {xs : List Nat} (ha : Vw h cF 1 va xs) (hne : xs ≠ []) (hs : xs.length < 2 ^ 40) (hq : Q (.sl (some ⟨h.length, 0⟩) xs.length xs.length (some 1)) (h ++ [⟨fl cF xs, .own⟩])) : W Φ 68 [va] h Q := by
  have ha0 := ha
  obtain ⟨ra, ca, ga, rfl, ha, _⟩ := ha
  obtain ⟨q, rfl, _⟩ := ha 0 (List.length_pos_iff.2 hne)
  refine W.freshL (F := F68) rfl ?_
  refine EvC.seq ?_
  refine EvC.reg ?_
  refine EvOps.step (n := 0) rfl ?_
  refine EvOps.nil ?_
  simp only [KP, KH, KC, ↓reduceIte, Nat.reduceEqDiff, Nat.reduceAdd]
  refine EvC.seq ?_
  refine EvC.seq ?_
  refine EvC.reg ?_
  refine EvOps.step (n := 0) rfl ?_
  refine EvOps.step (n := 0) rfl ?_
  refine EvOps.nil ?_
  simp only [KP, KH, KC, ↓reduceIte, Nat.reduceEqDiff, Nat.reduceAdd]
  refine EvC.condS rfl (fun hc => ?_) (fun hc => ?_)
  · first
     | cases hc; done
     | refine EvC.seq ?_
       refine EvC.reg ?_
       refine EvOps.step (n := 0) rfl ?_
       refine EvOps.nil ?_
       simp only [KP, KH, KC, ↓reduceIte, Nat.reduceEqDiff, Nat.reduceAdd]
       refine EvC.ret ?_
       refine Res.finR rfl ?_
       refine ⟨List.prefix_append _ _, Neat.new [(1, fl cF xs)] (Chg.refl h) (by simp [AV.refs, pack, if_new]) (by simp) (by simp [fl_lim]) ?_⟩
       simp [AV.ren, reno_new, reno_new0, pack]
       exact hq
  · first
     | cases hc; done
     | refine EvC.skip ?_
       refine EvC.seq ?_
       refine EvC.reg ?_
       refine EvOps.bsG [] rfl rfl rfl rfl rfl ?_
       refine EvOps.step (n := 0) rfl ?_
       refine EvOps.appE cF rfl rfl (Vw.app _ ha0).src hne (by rw [rdn_new]; rfl) (by omega) rfl ?_
       refine EvOps.step (n := 0) rfl ?_
       refine EvOps.nil ?_
       simp only [KP, KH, KC, ↓reduceIte, Nat.reduceEqDiff, Nat.reduceAdd]
       refine EvC.ret ?_
       refine Res.finR rfl ?_
       refine ⟨List.prefix_append _ _, Neat.new [(1, fl cF xs)] (Chg.refl h) (by simp [AV.refs, pack, if_new]) (by simp) (by simp [fl_lim]) ?_⟩
       simp [AV.ren, reno_new, reno_new0, pack]
       exact hq
/-- laws.szString -/
theorem w17 {r1 r2 r3 r4 : Option Ref} {n1 n2 n3 n4 c1 c2 c3 c4 : Nat} {g1 g2 g3 g4 : Option Nat} {x y z d : Nat} {p left : Int} (hn : n1 < 2 ^ 63 ∧ n2 < 2 ^ 63 ∧ n3 < 2 ^ 63 ∧ n4 < 2 ^ 63) (hl : 0 ≤ left ∧ left < 2 ^ 40) (hq : ∀ r : Int, (r = -1 ∨ (0 ≤ r ∧ r = left - n1 - n2 - n3 - n4)) → Q (i64 r) h) : W Φ 17 [.agg [.sl r1 n1 c1 g1, .sl r2 n2 c2 g2, .sl r3 n3 c3 g3, .sl r4 n4 c4 g4, f32 x, f32 y, f32 z, f32 d, i64 p], i64 left] h Q := by
  refine W.dropL (F := F17) rfl ?_
  refine EvC.seq ?_
  refine EvC.reg ?_
  refine EvOps.boxL rfl rfl rfl rfl rfl ?_
  refine EvOps.step (n := 0) rfl ?_
  refine EvOps.nil ?_
  simp only [KP, KH, KC, ↓reduceIte, Nat.reduceEqDiff, Nat.reduceAdd]
  refine EvC.seq ?_
  refine EvC.reg ?_
  refine EvOps.step (n := 0) rfl ?_
  first | refine EvOps.ldL rfl rfl rfl ?_ | refine EvOps.ldLm rfl rfl rfl (by simp only [List.length_set, S2_len]) ?_ | refine EvOps.ldH rfl rfl (by assumption) ?_
  refine EvOps.step (n := 0) rfl ?_
  refine EvOps.call rfl rfl ?_
  refine w40 hn.1 (by omega) (fun s1 hs1 => ?_)
  refine EvOps.step (n := 0) rfl ?_
  refine EvOps.nil ?_
  simp only [KP, KH, KC, ↓reduceIte, Nat.reduceEqDiff, Nat.reduceAdd]
  refine EvC.seq ?_
  refine EvC.seq ?_
  refine EvC.reg ?_
  refine EvOps.step (n := 0) rfl ?_
  refine EvOps.step (n := 0) rfl ?_
  refine EvOps.nil ?_
  simp only [KP, KH, KC, ↓reduceIte, Nat.reduceEqDiff, Nat.reduceAdd]
  refine EvC.condS rfl (fun hc => ?_) (fun hc => ?_)
  · first
     | cases hc; done
     | refine EvC.seq ?_
       refine EvC.reg ?_
       refine EvOps.step (n := 0) rfl ?_
       refine EvOps.nil ?_
       simp only [KP, KH, KC, ↓reduceIte, Nat.reduceEqDiff, Nat.reduceAdd]
       refine EvC.ret ?_
       refine Res.finR rfl ?_
       first | exact ⟨List.prefix_append _ _, rfl, hq _ (.inl rfl)⟩ | (simp only [decide_eq_false_iff_not] at hc; exact ⟨List.prefix_append _ _, rfl, hq _ (by omega)⟩)
  · first
     | cases hc; done
     | refine EvC.skip ?_
       refine EvC.seq ?_
       refine EvC.reg ?_
       refine EvOps.step (n := 0) rfl ?_
       first | refine EvOps.ldL rfl rfl rfl ?_ | refine EvOps.ldLm rfl rfl rfl (by simp only [List.length_set, S2_len]) ?_ | refine EvOps.ldH rfl rfl (by assumption) ?_
       refine EvOps.step (n := 0) rfl ?_
       refine EvOps.call rfl rfl ?_
       simp only [decide_eq_false_iff_not] at hc
       refine w40 hn.2.1 (by omega) (fun s2 hs2 => ?_)
       refine EvOps.step (n := 0) rfl ?_
       refine EvOps.nil ?_
       simp only [KP, KH, KC, ↓reduceIte, Nat.reduceEqDiff, Nat.reduceAdd]
       refine EvC.seq ?_
       refine EvC.seq ?_
       refine EvC.reg ?_
       refine EvOps.step (n := 0) rfl ?_
       refine EvOps.step (n := 0) rfl ?_
       refine EvOps.nil ?_
       simp only [KP, KH, KC, ↓reduceIte, Nat.reduceEqDiff, Nat.reduceAdd]
       refine EvC.condS rfl (fun hc => ?_) (fun hc => ?_)
       · first
          | cases hc; done
          | refine EvC.seq ?_
            refine EvC.reg ?_
            refine EvOps.step (n := 0) rfl ?_
            refine EvOps.nil ?_
            simp only [KP, KH, KC, ↓reduceIte, Nat.reduceEqDiff, Nat.reduceAdd]
            refine EvC.ret ?_
            refine Res.finR rfl ?_
            first | exact ⟨List.prefix_append _ _, rfl, hq _ (.inl rfl)⟩ | (simp only [decide_eq_false_iff_not] at hc; exact ⟨List.prefix_append _ _, rfl, hq _ (by omega)⟩)
       · first
          | cases hc; done
          | refine EvC.skip ?_
            refine EvC.seq ?_
            refine EvC.reg ?_
            refine EvOps.step (n := 0) rfl ?_
            first | refine EvOps.ldL rfl rfl rfl ?_ | refine EvOps.ldLm rfl rfl rfl (by simp only [List.length_set, S2_len]) ?_ | refine EvOps.ldH rfl rfl (by assumption) ?_
            refine EvOps.step (n := 0) rfl ?_
            refine EvOps.call rfl rfl ?_
            simp only [decide_eq_false_iff_not] at hc
            refine w41 hn.2.2.1 (by omega) (fun s3 hs3 => ?_)
            refine EvOps.step (n := 0) rfl ?_
            refine EvOps.nil ?_
            simp only [KP, KH, KC, ↓reduceIte, Nat.reduceEqDiff, Nat.reduceAdd]
            refine EvC.seq ?_
            refine EvC.seq ?_
            refine EvC.reg ?_
            refine EvOps.step (n := 0) rfl ?_
            refine EvOps.step (n := 0) rfl ?_
            refine EvOps.nil ?_
            simp only [KP, KH, KC, ↓reduceIte, Nat.reduceEqDiff, Nat.reduceAdd]
            refine EvC.condS rfl (fun hc => ?_) (fun hc => ?_)
            · first
               | cases hc; done
               | refine EvC.seq ?_
                 refine EvC.reg ?_
                 refine EvOps.step (n := 0) rfl ?_
                 refine EvOps.nil ?_
                 simp only [KP, KH, KC, ↓reduceIte, Nat.reduceEqDiff, Nat.reduceAdd]
                 refine EvC.ret ?_
                 refine Res.finR rfl ?_
                 first | exact ⟨List.prefix_append _ _, rfl, hq _ (.inl rfl)⟩ | (simp only [decide_eq_false_iff_not] at hc; exact ⟨List.prefix_append _ _, rfl, hq _ (by omega)⟩)
            · first
               | cases hc; done
               | refine EvC.skip ?_
                 refine EvC.seq ?_
                 refine EvC.reg ?_
                 refine EvOps.step (n := 0) rfl ?_
                 first | refine EvOps.ldL rfl rfl rfl ?_ | refine EvOps.ldLm rfl rfl rfl (by simp only [List.length_set, S2_len]) ?_ | refine EvOps.ldH rfl rfl (by assumption) ?_
                 refine EvOps.step (n := 0) rfl ?_
                 refine EvOps.call rfl rfl ?_
                 simp only [decide_eq_false_iff_not] at hc
                 refine w42 hn.2.2.2 (by omega) (fun s4 hs4 => ?_)
                 refine EvOps.step (n := 0) rfl ?_
                 refine EvOps.nil ?_
                 simp only [KP, KH, KC, ↓reduceIte, Nat.reduceEqDiff, Nat.reduceAdd]
                 refine EvC.seq ?_
                 refine EvC.seq ?_
                 refine EvC.reg ?_
                 refine EvOps.step (n := 0) rfl ?_
                 refine EvOps.step (n := 0) rfl ?_
                 refine EvOps.nil ?_
                 simp only [KP, KH, KC, ↓reduceIte, Nat.reduceEqDiff, Nat.reduceAdd]
                 refine EvC.condS rfl (fun hc => ?_) (fun hc => ?_)
                 · first
                    | cases hc; done
                    | refine EvC.seq ?_
                      refine EvC.reg ?_
                      refine EvOps.step (n := 0) rfl ?_
                      refine EvOps.nil ?_
                      simp only [KP, KH, KC, ↓reduceIte, Nat.reduceEqDiff, Nat.reduceAdd]
                      refine EvC.ret ?_
                      refine Res.finR rfl ?_
                      first | exact ⟨List.prefix_append _ _, rfl, hq _ (.inl rfl)⟩ | (simp only [decide_eq_false_iff_not] at hc; exact ⟨List.prefix_append _ _, rfl, hq _ (by omega)⟩)
                 · first
                    | cases hc; done
                    | refine EvC.skip ?_
                      refine EvC.seq ?_
                      refine EvC.reg ?_
                      refine EvOps.step (n := 0) rfl ?_
                      refine EvOps.step (n := 0) rfl ?_
                      refine EvOps.nil ?_
                      simp only [KP, KH, KC, ↓reduceIte, Nat.reduceEqDiff, Nat.reduceAdd]
                      refine EvC.ret ?_
                      refine Res.finR rfl ?_
                      first | exact ⟨List.prefix_append _ _, rfl, hq _ (.inl rfl)⟩ | (simp only [decide_eq_false_iff_not] at hc; exact ⟨List.prefix_append _ _, rfl, hq _ (by omega)⟩)
/-- laws.toString -/
theorem w19 {p b f l : AV} {s : Str} (a : StrV h p b f l s) (hs : s.small) (hq : Q (strOut h.length false s) (h ++ strBlk s)) : W Φ 19 [strAV p b f l s] h Q := by
  obtain ⟨a1, a2, a3, a4⟩ := a
  obtain ⟨s1, s2, s3, s4⟩ := hs
  have t := a1
  obtain ⟨_, _, _, rfl, _⟩ := t
  have t := a2
  obtain ⟨_, _, _, rfl, _⟩ := t
  have t := a3
  obtain ⟨_, _, _, rfl, _⟩ := t
  have t := a4
  obtain ⟨_, _, _, rfl, _⟩ := t
  refine W.freshL (F := F19) rfl ?_
  refine EvC.seq ?_
  refine EvC.reg ?_
  refine EvOps.boxL rfl rfl rfl rfl rfl ?_
  refine EvOps.allocL rfl rfl ?_
  refine EvOps.nil ?_
  simp only [KP, KH, KC, ↓reduceIte, Nat.reduceEqDiff, Nat.reduceAdd]
  refine EvC.seq ?_
  refine EvC.reg ?_
  refine EvOps.allocL rfl rfl ?_
  refine EvOps.nil ?_
  simp only [KP, KH, KC, ↓reduceIte, Nat.reduceEqDiff, Nat.reduceAdd]
  refine EvC.seq ?_
  refine EvC.reg ?_
  refine EvOps.step (n := 0) rfl ?_
  first | refine EvOps.ldL rfl rfl rfl ?_ | refine EvOps.ldLm rfl rfl rfl (by simp only [List.length_set, S2_len]) ?_ | refine EvOps.ldH rfl rfl (by assumption) ?_
  refine EvOps.call rfl rfl ?_
  refine w45 (Vw.app _ a1) s1 ?_
  simp only [List.append_assoc, List.cons_append, List.nil_append, List.length_append, List.length_cons, List.length_nil, Nat.zero_add, Nat.reduceAdd]
  refine EvOps.step (n := 0) rfl ?_
  first | refine EvOps.stL rfl rfl rfl rfl ?_ | refine EvOps.stLm rfl rfl rfl rfl (by simp only [List.length_set, S2_len]) ?_ | refine EvOps.stH rfl rfl rfl (by assumption) ?_
  refine EvOps.nil ?_
  simp only [KP, KH, KC, ↓reduceIte, Nat.reduceEqDiff, Nat.reduceAdd]
  refine EvC.seq ?_
  refine EvC.reg ?_
  refine EvOps.step (n := 0) rfl ?_
  first | refine EvOps.ldL rfl rfl rfl ?_ | refine EvOps.ldLm rfl rfl rfl (by simp only [List.length_set, S2_len]) ?_ | refine EvOps.ldH rfl rfl (by assumption) ?_
  refine EvOps.call rfl rfl ?_
  refine w45 (Vw.app _ a2) s2 ?_
  simp only [List.append_assoc, List.cons_append, List.nil_append, List.length_append, List.length_cons, List.length_nil, Nat.zero_add, Nat.reduceAdd]
  refine EvOps.step (n := 0) rfl ?_
  first | refine EvOps.stL rfl rfl rfl rfl ?_ | refine EvOps.stLm rfl rfl rfl rfl (by simp only [List.length_set, S2_len]) ?_ | refine EvOps.stH rfl rfl rfl (by assumption) ?_
  refine EvOps.nil ?_
  simp only [KP, KH, KC, ↓reduceIte, Nat.reduceEqDiff, Nat.reduceAdd]
  refine EvC.seq ?_
  refine EvC.reg ?_
  refine EvOps.step (n := 0) rfl ?_
  first | refine EvOps.ldL rfl rfl rfl ?_ | refine EvOps.ldLm rfl rfl rfl (by simp only [List.length_set, S2_len]) ?_ | refine EvOps.ldH rfl rfl (by assumption) ?_
  refine EvOps.call rfl rfl ?_
  refine w46 (Vw.app _ a3) s3 ?_
  simp only [List.append_assoc, List.cons_append, List.nil_append, List.length_append, List.length_cons, List.length_nil, Nat.zero_add, Nat.reduceAdd]
  refine EvOps.step (n := 0) rfl ?_
  first | refine EvOps.stL rfl rfl rfl rfl ?_ | refine EvOps.stLm rfl rfl rfl rfl (by simp only [List.length_set, S2_len]) ?_ | refine EvOps.stH rfl rfl rfl (by assumption) ?_
  refine EvOps.nil ?_
  simp only [KP, KH, KC, ↓reduceIte, Nat.reduceEqDiff, Nat.reduceAdd]
  refine EvC.seq ?_
  refine EvC.reg ?_
  refine EvOps.step (n := 0) rfl ?_
  first | refine EvOps.ldL rfl rfl rfl ?_ | refine EvOps.ldLm rfl rfl rfl (by simp only [List.length_set, S2_len]) ?_ | refine EvOps.ldH rfl rfl (by assumption) ?_
  refine EvOps.call rfl rfl ?_
  refine w47 (Vw.app _ a4) s4 ?_
  simp only [List.append_assoc, List.cons_append, List.nil_append, List.length_append, List.length_cons, List.length_nil, Nat.zero_add, Nat.reduceAdd]
  refine EvOps.step (n := 0) rfl ?_
  first | refine EvOps.stL rfl rfl rfl rfl ?_ | refine EvOps.stLm rfl rfl rfl rfl (by simp only [List.length_set, S2_len]) ?_ | refine EvOps.stH rfl rfl rfl (by assumption) ?_
  refine EvOps.nil ?_
  simp only [KP, KH, KC, ↓reduceIte, Nat.reduceEqDiff, Nat.reduceAdd]
  refine EvC.seq ?_
  refine EvC.reg ?_
  refine EvOps.step (n := 0) rfl ?_
  first | refine EvOps.ldnL rfl rfl rfl ?_ | refine EvOps.ldnLm rfl rfl rfl (by simp only [List.length_set, S2_len]) ?_ | refine EvOps.ldnH rfl rfl (by assumption) ?_
  refine EvOps.call rfl rfl ?_
  refine w48 (u := s.fall) ?_
  refine EvOps.step (n := 0) rfl ?_
  first | refine EvOps.stL rfl rfl rfl rfl ?_ | refine EvOps.stLm rfl rfl rfl rfl (by simp only [List.length_set, S2_len]) ?_ | refine EvOps.stH rfl rfl rfl (by assumption) ?_
  refine EvOps.nil ?_
  simp only [KP, KH, KC, ↓reduceIte, Nat.reduceEqDiff, Nat.reduceAdd]
  refine EvC.seq ?_
  refine EvC.reg ?_
  refine EvOps.step (n := 0) rfl ?_
  first | refine EvOps.ldL rfl rfl rfl ?_ | refine EvOps.ldLm rfl rfl rfl (by simp only [List.length_set, S2_len]) ?_ | refine EvOps.ldH rfl rfl (by assumption) ?_
  refine EvOps.step (n := 0) rfl ?_
  first | refine EvOps.stL rfl rfl rfl rfl ?_ | refine EvOps.stLm rfl rfl rfl rfl (by simp only [List.length_set, S2_len]) ?_ | refine EvOps.stH rfl rfl rfl (by assumption) ?_
  refine EvOps.nil ?_
  simp only [KP, KH, KC, ↓reduceIte, Nat.reduceEqDiff, Nat.reduceAdd]
  refine EvC.seq ?_
  refine EvC.reg ?_
  refine EvOps.step (n := 0) rfl ?_
  first | refine EvOps.ldL rfl rfl rfl ?_ | refine EvOps.ldLm rfl rfl rfl (by simp only [List.length_set, S2_len]) ?_ | refine EvOps.ldH rfl rfl (by assumption) ?_
  refine EvOps.step (n := 0) rfl ?_
  first | refine EvOps.stL rfl rfl rfl rfl ?_ | refine EvOps.stLm rfl rfl rfl rfl (by simp only [List.length_set, S2_len]) ?_ | refine EvOps.stH rfl rfl rfl (by assumption) ?_
  refine EvOps.nil ?_
  simp only [KP, KH, KC, ↓reduceIte, Nat.reduceEqDiff, Nat.reduceAdd]
  refine EvC.seq ?_
  refine EvC.reg ?_
  first | refine EvOps.ldnL rfl rfl rfl ?_ | refine EvOps.ldnLm rfl rfl rfl (by simp only [List.length_set, S2_len]) ?_ | refine EvOps.ldnH rfl rfl (by assumption) ?_
  first | refine EvOps.stL rfl rfl rfl rfl ?_ | refine EvOps.stLm rfl rfl rfl rfl (by simp only [List.length_set, S2_len]) ?_ | refine EvOps.stH rfl rfl rfl (by assumption) ?_
  refine EvOps.nil ?_
  simp only [KP, KH, KC, ↓reduceIte, Nat.reduceEqDiff, Nat.reduceAdd]
  refine EvC.ret ?_
  refine Res.finR (show resVals _ _ [.cells 2 9] = _ from by simp only [resVals, ARes.val, Env.get, rdn_new, rd_new, ↓reduceIte, Nat.reduceEqDiff]; rfl) ?_
  refine ⟨List.prefix_append _ _, Neat.new [(3, fl cV s.pts), (4, fl cV s.bef), (5, fl cB s.fixed), (6, fl cF s.lens)] (Chg.refl h) (by simp [AV.refs, refsL, pack, if_new]) (by simp) (by simp [fl_lim]) ?_⟩
  simp [AV.ren, renL, reno_new, reno_new0, pack, List.idxOf_cons, grOf, beq_add1, beq_add2, beq_add3]
  exact hq
/-- laws.eqString -/
theorem w20 {p b f l p' b' f' l' : AV} {s : Str} (a : StrV h p b f l s) (b0 : StrV h p' b' f' l' s) (hs : s.small) (hq : Q (.b true) h) : W Φ 20 [strAV p b f l s, strAV p' b' f' l' s] h Q := by
  obtain ⟨a1, a2, a3, a4⟩ := a
  obtain ⟨s1, s2, s3, s4⟩ := hs
  have t := a1
  obtain ⟨_, _, _, rfl, _⟩ := t
  have t := a2
  obtain ⟨_, _, _, rfl, _⟩ := t
  have t := a3
  obtain ⟨_, _, _, rfl, _⟩ := t
  have t := a4
  obtain ⟨_, _, _, rfl, _⟩ := t
  obtain ⟨b1, b2, b3, b4⟩ := b0
  have t := b1
  obtain ⟨_, _, _, rfl, _⟩ := t
  have t := b2
  obtain ⟨_, _, _, rfl, _⟩ := t
  have t := b3
  obtain ⟨_, _, _, rfl, _⟩ := t
  have t := b4
  obtain ⟨_, _, _, rfl, _⟩ := t
  refine W.dropL (F := F20) rfl ?_
  refine EvC.seq ?_
  refine EvC.reg ?_
  refine EvOps.boxL rfl rfl rfl rfl rfl ?_
  refine EvOps.boxL rfl rfl rfl rfl rfl ?_
  refine EvOps.step (n := 0) rfl ?_
  refine EvOps.nil ?_
  simp only [KP, KH, KC, ↓reduceIte, Nat.reduceEqDiff, Nat.reduceAdd]
  refine EvC.seq ?_
  refine EvC.seq ?_
  refine EvC.reg ?_
  refine EvOps.step (n := 0) rfl ?_
  first | refine EvOps.ldL rfl rfl rfl ?_ | refine EvOps.ldLm rfl rfl rfl (by simp only [List.length_set, S2_len]) ?_ | refine EvOps.ldH rfl rfl (by assumption) ?_
  refine EvOps.step (n := 0) rfl ?_
  first | refine EvOps.ldL rfl rfl rfl ?_ | refine EvOps.ldLm rfl rfl rfl (by simp only [List.length_set, S2_len]) ?_ | refine EvOps.ldH rfl rfl (by assumption) ?_
  refine EvOps.call rfl rfl ?_
  refine w49 (Vw.app _ a1) (Vw.app _ b1) s1 ?_
  refine EvOps.step (n := 0) rfl ?_
  refine EvOps.nil ?_
  simp only [KP, KH, KC, ↓reduceIte, Nat.reduceEqDiff, Nat.reduceAdd]
  refine EvC.condS rfl (fun hc => ?_) (fun hc => ?_)
  · first
     | cases hc; done
     | refine EvC.seq ?_
       refine EvC.reg ?_
       refine EvOps.step (n := 0) rfl ?_
       refine EvOps.nil ?_
       simp only [KP, KH, KC, ↓reduceIte, Nat.reduceEqDiff, Nat.reduceAdd]
       refine EvC.ret ?_
       refine Res.finR rfl ?_
       first | exact ⟨List.prefix_append _ _, rfl, hq⟩ | exact absurd hc (by simp)
  · first
     | cases hc; done
     | refine EvC.skip ?_
       refine EvC.seq ?_
       refine EvC.seq ?_
       refine EvC.reg ?_
       refine EvOps.step (n := 0) rfl ?_
       first | refine EvOps.ldL rfl rfl rfl ?_ | refine EvOps.ldLm rfl rfl rfl (by simp only [List.length_set, S2_len]) ?_ | refine EvOps.ldH rfl rfl (by assumption) ?_
       refine EvOps.step (n := 0) rfl ?_
       first | refine EvOps.ldL rfl rfl rfl ?_ | refine EvOps.ldLm rfl rfl rfl (by simp only [List.length_set, S2_len]) ?_ | refine EvOps.ldH rfl rfl (by assumption) ?_
       refine EvOps.call rfl rfl ?_
       refine w49 (Vw.app _ a2) (Vw.app _ b2) s2 ?_
       refine EvOps.step (n := 0) rfl ?_
       refine EvOps.nil ?_
       simp only [KP, KH, KC, ↓reduceIte, Nat.reduceEqDiff, Nat.reduceAdd]
       refine EvC.condS rfl (fun hc => ?_) (fun hc => ?_)
       · first
          | cases hc; done
          | refine EvC.seq ?_
            refine EvC.reg ?_
            refine EvOps.step (n := 0) rfl ?_
            refine EvOps.nil ?_
            simp only [KP, KH, KC, ↓reduceIte, Nat.reduceEqDiff, Nat.reduceAdd]
            refine EvC.ret ?_
            refine Res.finR rfl ?_
            first | exact ⟨List.prefix_append _ _, rfl, hq⟩ | exact absurd hc (by simp)
       · first
          | cases hc; done
          | refine EvC.skip ?_
            refine EvC.seq ?_
            refine EvC.seq ?_
            refine EvC.reg ?_
            refine EvOps.step (n := 0) rfl ?_
            first | refine EvOps.ldL rfl rfl rfl ?_ | refine EvOps.ldLm rfl rfl rfl (by simp only [List.length_set, S2_len]) ?_ | refine EvOps.ldH rfl rfl (by assumption) ?_
            refine EvOps.step (n := 0) rfl ?_
            first | refine EvOps.ldL rfl rfl rfl ?_ | refine EvOps.ldLm rfl rfl rfl (by simp only [List.length_set, S2_len]) ?_ | refine EvOps.ldH rfl rfl (by assumption) ?_
            refine EvOps.call rfl rfl ?_
            refine w50 (Vw.app _ a3) (Vw.app _ b3) s3 ?_
            refine EvOps.step (n := 0) rfl ?_
            refine EvOps.nil ?_
            simp only [KP, KH, KC, ↓reduceIte, Nat.reduceEqDiff, Nat.reduceAdd]
            refine EvC.condS rfl (fun hc => ?_) (fun hc => ?_)
            · first
               | cases hc; done
               | refine EvC.seq ?_
                 refine EvC.reg ?_
                 refine EvOps.step (n := 0) rfl ?_
                 refine EvOps.nil ?_
                 simp only [KP, KH, KC, ↓reduceIte, Nat.reduceEqDiff, Nat.reduceAdd]
                 refine EvC.ret ?_
                 refine Res.finR rfl ?_
                 first | exact ⟨List.prefix_append _ _, rfl, hq⟩ | exact absurd hc (by simp)
            · first
               | cases hc; done
               | refine EvC.skip ?_
                 refine EvC.seq ?_
                 refine EvC.seq ?_
                 refine EvC.reg ?_
                 refine EvOps.step (n := 0) rfl ?_
                 first | refine EvOps.ldL rfl rfl rfl ?_ | refine EvOps.ldLm rfl rfl rfl (by simp only [List.length_set, S2_len]) ?_ | refine EvOps.ldH rfl rfl (by assumption) ?_
                 refine EvOps.step (n := 0) rfl ?_
                 first | refine EvOps.ldL rfl rfl rfl ?_ | refine EvOps.ldLm rfl rfl rfl (by simp only [List.length_set, S2_len]) ?_ | refine EvOps.ldH rfl rfl (by assumption) ?_
                 refine EvOps.call rfl rfl ?_
                 refine w51 (Vw.app _ a4) (Vw.app _ b4) s4 ?_
                 refine EvOps.step (n := 0) rfl ?_
                 refine EvOps.nil ?_
                 simp only [KP, KH, KC, ↓reduceIte, Nat.reduceEqDiff, Nat.reduceAdd]
                 refine EvC.condS rfl (fun hc => ?_) (fun hc => ?_)
                 · first
                    | cases hc; done
                    | refine EvC.seq ?_
                      refine EvC.reg ?_
                      refine EvOps.step (n := 0) rfl ?_
                      refine EvOps.nil ?_
                      simp only [KP, KH, KC, ↓reduceIte, Nat.reduceEqDiff, Nat.reduceAdd]
                      refine EvC.ret ?_
                      refine Res.finR rfl ?_
                      first | exact ⟨List.prefix_append _ _, rfl, hq⟩ | exact absurd hc (by simp)
                 · first
                    | cases hc; done
                    | refine EvC.skip ?_
                      refine EvC.seq ?_
                      refine EvC.seq ?_
                      refine EvC.reg ?_
                      refine EvOps.step (n := 0) rfl ?_
                      first | refine EvOps.ldnL rfl rfl rfl ?_ | refine EvOps.ldnLm rfl rfl rfl (by simp only [List.length_set, S2_len]) ?_ | refine EvOps.ldnH rfl rfl (by assumption) ?_
                      refine EvOps.step (n := 0) rfl ?_
                      first | refine EvOps.ldnL rfl rfl rfl ?_ | refine EvOps.ldnLm rfl rfl rfl (by simp only [List.length_set, S2_len]) ?_ | refine EvOps.ldnH rfl rfl (by assumption) ?_
                      refine EvOps.call rfl rfl ?_
                      refine w52 (u := s.fall) ?_
                      refine EvOps.step (n := 0) rfl ?_
                      refine EvOps.nil ?_
                      simp only [KP, KH, KC, ↓reduceIte, Nat.reduceEqDiff, Nat.reduceAdd]
                      refine EvC.condS rfl (fun hc => ?_) (fun hc => ?_)
                      · first
                         | cases hc; done
                         | refine EvC.seq ?_
                           refine EvC.reg ?_
                           refine EvOps.step (n := 0) rfl ?_
                           refine EvOps.nil ?_
                           simp only [KP, KH, KC, ↓reduceIte, Nat.reduceEqDiff, Nat.reduceAdd]
                           refine EvC.ret ?_
                           refine Res.finR rfl ?_
                           first | exact ⟨List.prefix_append _ _, rfl, hq⟩ | exact absurd hc (by simp)
                      · first
                         | cases hc; done
                         | refine EvC.skip ?_
                           refine EvC.seq ?_
                           refine EvC.seq ?_
                           refine EvC.reg ?_
                           refine EvOps.step (n := 0) rfl ?_
                           first | refine EvOps.ldL rfl rfl rfl ?_ | refine EvOps.ldLm rfl rfl rfl (by simp only [List.length_set, S2_len]) ?_ | refine EvOps.ldH rfl rfl (by assumption) ?_
                           first | refine EvOps.cvtUp rfl rfl ?_ | refine EvOps.step (n := 0) rfl ?_
                           refine EvOps.step (n := 0) rfl ?_
                           first | refine EvOps.ldL rfl rfl rfl ?_ | refine EvOps.ldLm rfl rfl rfl (by simp only [List.length_set, S2_len]) ?_ | refine EvOps.ldH rfl rfl (by assumption) ?_
                           first | refine EvOps.cvtUp rfl rfl ?_ | refine EvOps.step (n := 0) rfl ?_
                           refine EvOps.call rfl rfl ?_
                           refine w53 (x := up s.damp) ?_
                           refine EvOps.step (n := 0) rfl ?_
                           refine EvOps.nil ?_
                           simp only [KP, KH, KC, ↓reduceIte, Nat.reduceEqDiff, Nat.reduceAdd]
                           refine EvC.condS rfl (fun hc => ?_) (fun hc => ?_)
                           · first
                              | cases hc; done
                              | refine EvC.seq ?_
                                refine EvC.reg ?_
                                refine EvOps.step (n := 0) rfl ?_
                                refine EvOps.nil ?_
                                simp only [KP, KH, KC, ↓reduceIte, Nat.reduceEqDiff, Nat.reduceAdd]
                                refine EvC.ret ?_
                                refine Res.finR rfl ?_
                                first | exact ⟨List.prefix_append _ _, rfl, hq⟩ | exact absurd hc (by simp)
                           · first
                              | cases hc; done
                              | refine EvC.skip ?_
                                refine EvC.seq ?_
                                refine EvC.seq ?_
                                refine EvC.reg ?_
                                refine EvOps.step (n := 0) rfl ?_
                                first | refine EvOps.ldL rfl rfl rfl ?_ | refine EvOps.ldLm rfl rfl rfl (by simp only [List.length_set, S2_len]) ?_ | refine EvOps.ldH rfl rfl (by assumption) ?_
                                refine EvOps.step (n := 0) rfl ?_
                                first | refine EvOps.ldL rfl rfl rfl ?_ | refine EvOps.ldLm rfl rfl rfl (by simp only [List.length_set, S2_len]) ?_ | refine EvOps.ldH rfl rfl (by assumption) ?_
                                refine EvOps.step (n := 0) rfl ?_
                                refine EvOps.nil ?_
                                simp only [KP, KH, KC, ↓reduceIte, Nat.reduceEqDiff, Nat.reduceAdd]
                                refine EvC.condS rfl (fun hc => ?_) (fun hc => ?_)
                                · first
                                   | cases hc; done
                                   | refine EvC.seq ?_
                                     refine EvC.reg ?_
                                     refine EvOps.step (n := 0) rfl ?_
                                     refine EvOps.nil ?_
                                     simp only [KP, KH, KC, ↓reduceIte, Nat.reduceEqDiff, Nat.reduceAdd]
                                     refine EvC.ret ?_
                                     refine Res.finR rfl ?_
                                     first | exact ⟨List.prefix_append _ _, rfl, hq⟩ | exact absurd hc (by simp)
                                · first
                                   | cases hc; done
                                   | refine EvC.skip ?_
                                     refine EvC.seq ?_
                                     refine EvC.reg ?_
                                     refine EvOps.step (n := 0) rfl ?_
                                     refine EvOps.nil ?_
                                     simp only [KP, KH, KC, ↓reduceIte, Nat.reduceEqDiff, Nat.reduceAdd]
                                     refine EvC.ret ?_
                                     refine Res.finR rfl ?_
                                     first | exact ⟨List.prefix_append _ _, rfl, hq⟩ | exact absurd hc (by simp)
/-- (impl.String).copied -/
theorem w27 {p b f l : AV} {s : Str} (a : StrV h p b f l s) (ok : s.Ok) (hq : Q (strOut h.length true s) (h ++ strBlk s)) : W Φ 27 [strAV p b f l s] h Q := by
  obtain ⟨oa, ob, oc, od, oe, of, og⟩ := ok
  have n1 : s.pts ≠ [] := by intro e; rw [e] at oa; simp at oa
  have n2 : s.bef ≠ [] := by intro e; rw [e] at oc; simp at oc; omega
  have n3 : s.fixed ≠ [] := by intro e; rw [e] at od; simp at od; omega
  have n4 : s.lens ≠ [] := by intro e; rw [e] at oe; simp at oe; omega
  have hs : s.small := ⟨by omega, by omega, by omega, by omega⟩
  obtain ⟨a1, a2, a3, a4⟩ := a
  obtain ⟨s1, s2, s3, s4⟩ := hs
  have t := a1
  obtain ⟨_, _, _, rfl, _⟩ := t
  have t := a2
  obtain ⟨_, _, _, rfl, _⟩ := t
  have t := a3
  obtain ⟨_, _, _, rfl, _⟩ := t
  have t := a4
  obtain ⟨_, _, _, rfl, _⟩ := t
  refine W.freshL (F := F27) rfl ?_
  refine EvC.seq ?_
  refine EvC.reg ?_
  refine EvOps.boxL rfl rfl rfl rfl rfl ?_
  refine EvOps.allocL rfl rfl ?_
  refine EvOps.nil ?_
  simp only [KP, KH, KC, ↓reduceIte, Nat.reduceEqDiff, Nat.reduceAdd]
  refine EvC.seq ?_
  refine EvC.drw rfl ?_
  refine EvOps.step (n := 0) rfl ?_
  first | refine EvOps.ldL rfl rfl rfl ?_ | refine EvOps.ldLm rfl rfl rfl (by simp only [List.length_set, S2_len]) ?_ | refine EvOps.ldH rfl rfl (by assumption) ?_
  refine EvOps.call rfl rfl ?_
  refine w36 (Vw.app _ a1) n1 s1 ?_
  simp only [List.append_assoc, List.cons_append, List.nil_append, List.length_append, List.length_cons, List.length_nil, Nat.zero_add, Nat.reduceAdd]
  refine EvOps.step (n := 0) rfl ?_
  first | refine EvOps.ldL rfl rfl rfl ?_ | refine EvOps.ldLm rfl rfl rfl (by simp only [List.length_set, S2_len]) ?_ | refine EvOps.ldH rfl rfl (by assumption) ?_
  refine EvOps.call rfl rfl ?_
  refine w36 (Vw.app _ a2) n2 s2 ?_
  simp only [List.append_assoc, List.cons_append, List.nil_append, List.length_append, List.length_cons, List.length_nil, Nat.zero_add, Nat.reduceAdd]
  refine EvOps.step (n := 0) rfl ?_
  first | refine EvOps.stL rfl rfl rfl rfl ?_ | refine EvOps.stLm rfl rfl rfl rfl (by simp only [List.length_set, S2_len]) ?_ | refine EvOps.stH rfl rfl rfl (by assumption) ?_
  refine EvOps.step (n := 0) rfl ?_
  first | refine EvOps.stL rfl rfl rfl rfl ?_ | refine EvOps.stLm rfl rfl rfl rfl (by simp only [List.length_set, S2_len]) ?_ | refine EvOps.stH rfl rfl rfl (by assumption) ?_
  refine EvOps.nil ?_
  simp only [KP, KH, KC, ↓reduceIte, Nat.reduceEqDiff, Nat.reduceAdd]
  refine EvC.seq ?_
  refine EvC.drw rfl ?_
  refine EvOps.step (n := 0) rfl ?_
  first | refine EvOps.ldL rfl rfl rfl ?_ | refine EvOps.ldLm rfl rfl rfl (by simp only [List.length_set, S2_len]) ?_ | refine EvOps.ldH rfl rfl (by assumption) ?_
  refine EvOps.call rfl rfl ?_
  refine w67 (Vw.app _ a3) n3 s3 ?_
  simp only [List.append_assoc, List.cons_append, List.nil_append, List.length_append, List.length_cons, List.length_nil, Nat.zero_add, Nat.reduceAdd]
  refine EvOps.step (n := 0) rfl ?_
  first | refine EvOps.ldL rfl rfl rfl ?_ | refine EvOps.ldLm rfl rfl rfl (by simp only [List.length_set, S2_len]) ?_ | refine EvOps.ldH rfl rfl (by assumption) ?_
  refine EvOps.call rfl rfl ?_
  refine w68 (Vw.app _ a4) n4 s4 ?_
  simp only [List.append_assoc, List.cons_append, List.nil_append, List.length_append, List.length_cons, List.length_nil, Nat.zero_add, Nat.reduceAdd]
  refine EvOps.step (n := 0) rfl ?_
  first | refine EvOps.stL rfl rfl rfl rfl ?_ | refine EvOps.stLm rfl rfl rfl rfl (by simp only [List.length_set, S2_len]) ?_ | refine EvOps.stH rfl rfl rfl (by assumption) ?_
  refine EvOps.step (n := 0) rfl ?_
  first | refine EvOps.stL rfl rfl rfl rfl ?_ | refine EvOps.stLm rfl rfl rfl rfl (by simp only [List.length_set, S2_len]) ?_ | refine EvOps.stH rfl rfl rfl (by assumption) ?_
  refine EvOps.nil ?_
  simp only [KP, KH, KC, ↓reduceIte, Nat.reduceEqDiff, Nat.reduceAdd]
  refine EvC.seq ?_
  refine EvC.reg ?_
  first | refine EvOps.ldnL rfl rfl rfl ?_ | refine EvOps.ldnLm rfl rfl rfl (by simp only [List.length_set, S2_len]) ?_ | refine EvOps.ldnH rfl rfl (by assumption) ?_
  first | refine EvOps.stL rfl rfl rfl rfl ?_ | refine EvOps.stLm rfl rfl rfl rfl (by simp only [List.length_set, S2_len]) ?_ | refine EvOps.stH rfl rfl rfl (by assumption) ?_
  refine EvOps.nil ?_
  simp only [KP, KH, KC, ↓reduceIte, Nat.reduceEqDiff, Nat.reduceAdd]
  refine EvC.ret ?_
  refine Res.finR (show resVals _ _ [.cells 2 9] = _ from by simp only [resVals, ARes.val, Env.get, rdn_new, rd_new, ↓reduceIte, Nat.reduceEqDiff]; rfl) ?_
  refine ⟨List.prefix_append _ _, Neat.new [(2, fl cV s.pts), (3, fl cV s.bef), (4, fl cB s.fixed), (5, fl cF s.lens)] (Chg.refl h) (by simp [AV.refs, refsL, pack, if_new]) (by simp) (by simp [fl_lim]) ?_⟩
  simp [AV.ren, renL, reno_new, reno_new0, pack, List.idxOf_cons, grOf, beq_add1, beq_add2, beq_add3]
  exact hq
end
end Go.V.Try
