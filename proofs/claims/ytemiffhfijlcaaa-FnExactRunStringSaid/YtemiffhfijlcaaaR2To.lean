import Derived.Test.YtemiffhfijlcaaaR2Iso
set_option linter.unusedSimpArgs false
set_option linter.unusedVariables false
set_option linter.unusedSectionVars false
/-! Copies. -/
namespace Go.V.Try
open Go Go.V
section
variable {h : H} {Q : AV → H → Prop}
/-- laws.toVectorS -/
theorem w45 {va : AV} {xs : List Vec} (ha : Vw h cV 3 va xs) (hs : xs.length < 2 ^ 40) (hq : Q (.sl (some ⟨h.length, 0⟩) xs.length xs.length none) (h ++ [⟨fl cV xs, .own⟩])) : W Φ 45 [va] h Q := by
  obtain ⟨ra, ca, ga, rfl, ha, _⟩ := ha
  refine W.freshL (F := F45) rfl ?_
  refine EvC.seq ?_
  refine EvC.reg ?_
  refine EvOps.step (n := 0) rfl ?_
  refine EvOps.nil ?_
  simp only [KP, KH, KC, ↓reduceIte, Nat.reduceEqDiff, Nat.reduceAdd]
  refine EvC.seq ?_
  refine EvC.reg ?_
  refine EvOps.step (n := 0) rfl ?_
  refine EvOps.step (n := 0) rfl ?_
  refine EvOps.mkL cV (⟨0, 0, 0⟩ : Vec) xs.length rfl rfl rfl rfl (by omega) rfl ?_
  refine EvOps.step (n := 0) rfl ?_
  refine EvOps.nil ?_
  simp only [KP, KH, KC, ↓reduceIte, Nat.reduceEqDiff, Nat.reduceAdd]
  refine EvC.seq ?_
  refine EvC.seq ?_
  refine EvC.reg ?_
  refine EvOps.step (n := 0) rfl ?_
  refine EvOps.nil ?_
  simp only [KP, KH, KC, ↓reduceIte, Nat.reduceEqDiff, Nat.reduceAdd]
  refine EvC.block ?_
  refine EvC.loop (fun k e hh => ∃ i : Nat, k = xs.length - i ∧ i ≤ xs.length ∧ hh = h ++ [⟨fl cV (xs.take i ++ List.replicate (xs.length - i) (⟨0, 0, 0⟩ : Vec)), .own⟩] ∧ e = [(0, .sl ra xs.length ca ga), (2, .sl none 0 0 none), (3, .sl (some ⟨h.length + 0, 0⟩) xs.length xs.length none), (4, i64 i)]) (k := xs.length) ⟨0, by simp, by simp, by simp, rfl⟩ ?_
  rintro k e hh ⟨i, rfl, hi, rfl, rfl⟩
  refine EvC.seq ?_
  refine EvC.seq ?_
  refine EvC.reg ?_
  refine EvOps.step (n := 0) rfl ?_
  refine EvOps.step (n := 0) rfl ?_
  refine EvOps.step (n := 0) rfl ?_
  refine EvOps.step (n := 0) rfl ?_
  refine EvOps.nil ?_
  simp only [KP, KH, KC, ↓reduceIte, Nat.reduceEqDiff, Nat.reduceAdd]
  refine EvC.condS rfl (fun hc => ?_) (fun hc => ?_)
  · first
     | cases hc; done
     | refine EvC.skip ?_
       refine EvC.seq ?_
       refine EvC.block ?_
       refine EvC.reg ?_
       refine EvOps.step (n := 0) rfl ?_
       refine EvOps.step (n := 0) rfl ?_
       refine EvOps.step (n := 0) rfl ?_
       refine EvOps.step (n := 0) rfl ?_
       have hix : i < xs.length := by simpa using hc
       obtain ⟨qa, rfl, hqa⟩ := ha i hix
       first | refine EvOps.iaN rfl rfl (by omega) ?_
       first | refine EvOps.ldnL rfl rfl rfl ?_ | refine EvOps.ldnLm rfl rfl rfl (by simp only [List.length_set, S2_len]) ?_ | refine EvOps.ldnH rfl rfl (by assumption) ?_
       refine EvOps.call rfl rfl ?_
       refine w48 (u := xs[i]) ?_
       first | refine EvOps.iaN rfl rfl (by omega) ?_
       refine EvOps.stEL cV (xs.take i ++ List.replicate (xs.length - i) (⟨0, 0, 0⟩ : Vec)) xs[i] (k := 0) (i := i) rfl rfl rfl (by simp; omega) rfl ?_
       refine EvOps.nil ?_
       simp only [KP, KH, KC, ↓reduceIte, Nat.reduceEqDiff, Nat.reduceAdd]
       refine EvC.reg ?_
       refine EvOps.step (n := 0) rfl ?_
       first | refine EvOps.addI rfl rfl (by omega) ?_ | refine EvOps.step (n := 0) rfl ?_
       refine EvOps.step (n := 0) rfl ?_
       refine EvOps.nil ?_
       simp only [KP, KH, KC, ↓reduceIte, Nat.reduceEqDiff, Nat.reduceAdd]
       refine ⟨xs.length - (i + 1), by omega, i + 1, (by first | rfl | trivial), by omega, ?_, (by first | rfl | trivial)⟩
       try simp only [List.set_cons_zero]
       rw [set_step (by simpa using hc)]
  · first
     | cases hc; done
     | refine EvC.exit ?_
       refine EvC.seq ?_
       refine EvC.reg ?_
       refine EvOps.step (n := 0) rfl ?_
       refine EvOps.step (n := 0) rfl ?_
       refine EvOps.nil ?_
       simp only [KP, KH, KC, ↓reduceIte, Nat.reduceEqDiff, Nat.reduceAdd]
       refine EvC.ret ?_
       refine Res.finR rfl ?_
       have hil : i = xs.length := by simp at hc; omega
       subst hil
       simp only [Nat.sub_self, List.replicate_zero, List.append_nil, List.take_length]
       refine ⟨List.prefix_append _ _, Neat.new [(0, fl cV xs)] (Chg.refl h) (by simp [AV.refs, pack, if_new]) (by simp) (by simp [fl_lim]) ?_⟩
       simp [AV.ren, reno_new, reno_new0, pack]
       exact hq
/-- laws.toBoolS -/
theorem w46 {va : AV} {xs : List Bool} (ha : Vw h cB 1 va xs) (hs : xs.length < 2 ^ 40) (hq : Q (.sl (some ⟨h.length, 0⟩) xs.length xs.length none) (h ++ [⟨fl cB xs, .own⟩])) : W Φ 46 [va] h Q := by
  obtain ⟨ra, ca, ga, rfl, ha, _⟩ := ha
  refine W.freshL (F := F46) rfl ?_
  refine EvC.seq ?_
  refine EvC.reg ?_
  refine EvOps.step (n := 0) rfl ?_
  refine EvOps.nil ?_
  simp only [KP, KH, KC, ↓reduceIte, Nat.reduceEqDiff, Nat.reduceAdd]
  refine EvC.seq ?_
  refine EvC.reg ?_
  refine EvOps.step (n := 0) rfl ?_
  refine EvOps.step (n := 0) rfl ?_
  refine EvOps.mkL cB (false : Bool) xs.length rfl rfl rfl rfl (by omega) rfl ?_
  refine EvOps.step (n := 0) rfl ?_
  refine EvOps.nil ?_
  simp only [KP, KH, KC, ↓reduceIte, Nat.reduceEqDiff, Nat.reduceAdd]
  refine EvC.seq ?_
  refine EvC.seq ?_
  refine EvC.reg ?_
  refine EvOps.step (n := 0) rfl ?_
  refine EvOps.nil ?_
  simp only [KP, KH, KC, ↓reduceIte, Nat.reduceEqDiff, Nat.reduceAdd]
  refine EvC.block ?_
  refine EvC.loop (fun k e hh => ∃ i : Nat, k = xs.length - i ∧ i ≤ xs.length ∧ hh = h ++ [⟨fl cB (xs.take i ++ List.replicate (xs.length - i) (false : Bool)), .own⟩] ∧ e = [(0, .sl ra xs.length ca ga), (2, .sl none 0 0 none), (3, .sl (some ⟨h.length + 0, 0⟩) xs.length xs.length none), (4, i64 i)]) (k := xs.length) ⟨0, by simp, by simp, by simp, rfl⟩ ?_
  rintro k e hh ⟨i, rfl, hi, rfl, rfl⟩
  refine EvC.seq ?_
  refine EvC.seq ?_
  refine EvC.reg ?_
  refine EvOps.step (n := 0) rfl ?_
  refine EvOps.step (n := 0) rfl ?_
  refine EvOps.step (n := 0) rfl ?_
  refine EvOps.step (n := 0) rfl ?_
  refine EvOps.nil ?_
  simp only [KP, KH, KC, ↓reduceIte, Nat.reduceEqDiff, Nat.reduceAdd]
  refine EvC.condS rfl (fun hc => ?_) (fun hc => ?_)
  · first
     | cases hc; done
     | refine EvC.skip ?_
       refine EvC.seq ?_
       refine EvC.block ?_
       refine EvC.reg ?_
       refine EvOps.step (n := 0) rfl ?_
       refine EvOps.step (n := 0) rfl ?_
       refine EvOps.step (n := 0) rfl ?_
       refine EvOps.step (n := 0) rfl ?_
       have hix : i < xs.length := by simpa using hc
       obtain ⟨qa, rfl, hqa⟩ := ha i hix
       replace hqa := rd_of_rdn hqa
       first | refine EvOps.iaN rfl rfl (by omega) ?_
       first | refine EvOps.ldL rfl rfl rfl ?_ | refine EvOps.ldLm rfl rfl rfl (by simp only [List.length_set, S2_len]) ?_ | refine EvOps.ldH rfl rfl (by assumption) ?_
       first | refine EvOps.iaN rfl rfl (by omega) ?_
       refine EvOps.stEL cB (xs.take i ++ List.replicate (xs.length - i) (false : Bool)) xs[i] (k := 0) (i := i) rfl rfl rfl (by simp; omega) rfl ?_
       refine EvOps.nil ?_
       simp only [KP, KH, KC, ↓reduceIte, Nat.reduceEqDiff, Nat.reduceAdd]
       refine EvC.reg ?_
       refine EvOps.step (n := 0) rfl ?_
       first | refine EvOps.addI rfl rfl (by omega) ?_ | refine EvOps.step (n := 0) rfl ?_
       refine EvOps.step (n := 0) rfl ?_
       refine EvOps.nil ?_
       simp only [KP, KH, KC, ↓reduceIte, Nat.reduceEqDiff, Nat.reduceAdd]
       refine ⟨xs.length - (i + 1), by omega, i + 1, (by first | rfl | trivial), by omega, ?_, (by first | rfl | trivial)⟩
       try simp only [List.set_cons_zero]
       rw [set_step (by simpa using hc)]
  · first
     | cases hc; done
     | refine EvC.exit ?_
       refine EvC.seq ?_
       refine EvC.reg ?_
       refine EvOps.step (n := 0) rfl ?_
       refine EvOps.step (n := 0) rfl ?_
       refine EvOps.nil ?_
       simp only [KP, KH, KC, ↓reduceIte, Nat.reduceEqDiff, Nat.reduceAdd]
       refine EvC.ret ?_
       refine Res.finR rfl ?_
       have hil : i = xs.length := by simp at hc; omega
       subst hil
       simp only [Nat.sub_self, List.replicate_zero, List.append_nil, List.take_length]
       refine ⟨List.prefix_append _ _, Neat.new [(0, fl cB xs)] (Chg.refl h) (by simp [AV.refs, pack, if_new]) (by simp) (by simp [fl_lim]) ?_⟩
       simp [AV.ren, reno_new, reno_new0, pack]
       exact hq
/-- laws.toFloat32S -/
theorem w47 {va : AV} {xs : List Nat} (ha : Vw h cF 1 va xs) (hs : xs.length < 2 ^ 40) (hq : Q (.sl (some ⟨h.length, 0⟩) xs.length xs.length none) (h ++ [⟨fl cF xs, .own⟩])) : W Φ 47 [va] h Q := by
  obtain ⟨ra, ca, ga, rfl, ha, _⟩ := ha
  refine W.freshL (F := F47) rfl ?_
  refine EvC.seq ?_
  refine EvC.reg ?_
  refine EvOps.step (n := 0) rfl ?_
  refine EvOps.nil ?_
  simp only [KP, KH, KC, ↓reduceIte, Nat.reduceEqDiff, Nat.reduceAdd]
  refine EvC.seq ?_
  refine EvC.reg ?_
  refine EvOps.step (n := 0) rfl ?_
  refine EvOps.step (n := 0) rfl ?_
  refine EvOps.mkL cF (0 : Nat) xs.length rfl rfl rfl rfl (by omega) rfl ?_
  refine EvOps.step (n := 0) rfl ?_
  refine EvOps.nil ?_
  simp only [KP, KH, KC, ↓reduceIte, Nat.reduceEqDiff, Nat.reduceAdd]
  refine EvC.seq ?_
  refine EvC.seq ?_
  refine EvC.reg ?_
  refine EvOps.step (n := 0) rfl ?_
  refine EvOps.nil ?_
  simp only [KP, KH, KC, ↓reduceIte, Nat.reduceEqDiff, Nat.reduceAdd]
  refine EvC.block ?_
  refine EvC.loop (fun k e hh => ∃ i : Nat, k = xs.length - i ∧ i ≤ xs.length ∧ hh = h ++ [⟨fl cF (xs.take i ++ List.replicate (xs.length - i) (0 : Nat)), .own⟩] ∧ e = [(0, .sl ra xs.length ca ga), (2, .sl none 0 0 none), (3, .sl (some ⟨h.length + 0, 0⟩) xs.length xs.length none), (4, i64 i)]) (k := xs.length) ⟨0, by simp, by simp, by simp, rfl⟩ ?_
  rintro k e hh ⟨i, rfl, hi, rfl, rfl⟩
  refine EvC.seq ?_
  refine EvC.seq ?_
  refine EvC.reg ?_
  refine EvOps.step (n := 0) rfl ?_
  refine EvOps.step (n := 0) rfl ?_
  refine EvOps.step (n := 0) rfl ?_
  refine EvOps.step (n := 0) rfl ?_
  refine EvOps.nil ?_
  simp only [KP, KH, KC, ↓reduceIte, Nat.reduceEqDiff, Nat.reduceAdd]
  refine EvC.condS rfl (fun hc => ?_) (fun hc => ?_)
  · first
     | cases hc; done
     | refine EvC.skip ?_
       refine EvC.seq ?_
       refine EvC.block ?_
       refine EvC.reg ?_
       refine EvOps.step (n := 0) rfl ?_
       refine EvOps.step (n := 0) rfl ?_
       refine EvOps.step (n := 0) rfl ?_
       refine EvOps.step (n := 0) rfl ?_
       have hix : i < xs.length := by simpa using hc
       obtain ⟨qa, rfl, hqa⟩ := ha i hix
       replace hqa := rd_of_rdn hqa
       first | refine EvOps.iaN rfl rfl (by omega) ?_
       first | refine EvOps.ldL rfl rfl rfl ?_ | refine EvOps.ldLm rfl rfl rfl (by simp only [List.length_set, S2_len]) ?_ | refine EvOps.ldH rfl rfl (by assumption) ?_
       first | refine EvOps.iaN rfl rfl (by omega) ?_
       refine EvOps.stEL cF (xs.take i ++ List.replicate (xs.length - i) (0 : Nat)) xs[i] (k := 0) (i := i) rfl rfl rfl (by simp; omega) rfl ?_
       refine EvOps.nil ?_
       simp only [KP, KH, KC, ↓reduceIte, Nat.reduceEqDiff, Nat.reduceAdd]
       refine EvC.reg ?_
       refine EvOps.step (n := 0) rfl ?_
       first | refine EvOps.addI rfl rfl (by omega) ?_ | refine EvOps.step (n := 0) rfl ?_
       refine EvOps.step (n := 0) rfl ?_
       refine EvOps.nil ?_
       simp only [KP, KH, KC, ↓reduceIte, Nat.reduceEqDiff, Nat.reduceAdd]
       refine ⟨xs.length - (i + 1), by omega, i + 1, (by first | rfl | trivial), by omega, ?_, (by first | rfl | trivial)⟩
       try simp only [List.set_cons_zero]
       rw [set_step (by simpa using hc)]
  · first
     | cases hc; done
     | refine EvC.exit ?_
       refine EvC.seq ?_
       refine EvC.reg ?_
       refine EvOps.step (n := 0) rfl ?_
       refine EvOps.step (n := 0) rfl ?_
       refine EvOps.nil ?_
       simp only [KP, KH, KC, ↓reduceIte, Nat.reduceEqDiff, Nat.reduceAdd]
       refine EvC.ret ?_
       refine Res.finR rfl ?_
       have hil : i = xs.length := by simp at hc; omega
       subst hil
       simp only [Nat.sub_self, List.replicate_zero, List.append_nil, List.take_length]
       refine ⟨List.prefix_append _ _, Neat.new [(0, fl cF xs)] (Chg.refl h) (by simp [AV.refs, pack, if_new]) (by simp) (by simp [fl_lim]) ?_⟩
       simp [AV.ren, reno_new, reno_new0, pack]
       exact hq
end
end Go.V.Try
