import Derived.Test.YtemiffhfijlcaaaR2Iso
set_option linter.unusedSimpArgs false
set_option linter.unusedVariables false
set_option linter.unusedSectionVars false
/-! What the laws lay into lists, and find there again; sizes. -/
namespace Go.V.Try
open Go Go.V
section
variable {h : H} {Q : AV → H → Prop}
/-- laws.markVectorS -/
theorem w54 {b cap n : Nat} {gr : Option Nat} {k : Int} {old : List AV} (hb : h[b]? = some ⟨old, .own⟩) (hn : old.length = 3 * n) (hk : 0 ≤ k ∧ k + 3 * n < 2 ^ 60) (hq : Q (i64 (k + ((3 * n : Nat) : Int))) (h.set b ⟨mc (kF k) (3 * n), .own⟩)) : W Φ 54 [.sl (some ⟨b, 0⟩) n cap gr, i64 k] h Q := by
  have hbl := at_lt hb
  refine W.neatL (F := F54) rfl ?_
  refine EvC.seq ?_
  refine EvC.reg ?_
  refine EvOps.step (n := 0) rfl ?_
  refine EvOps.nil ?_
  simp only [KP, KH, KC, ↓reduceIte, Nat.reduceEqDiff, Nat.reduceAdd]
  refine EvC.seq ?_
  refine EvC.seq ?_
  refine EvC.reg ?_
  refine EvOps.step (n := 0) rfl ?_
  refine EvOps.nil ?_
  simp only [KP, KH, KC, ↓reduceIte, Nat.reduceEqDiff, Nat.reduceAdd]
  refine EvC.block ?_
  refine EvC.loop (fun c e hh => ∃ (i : Nat) (z : Int), z = k + ((3 * i : Nat) : Int) ∧ c = n - i ∧ i ≤ n ∧ hh = h.set b ⟨mc (kF k) (3 * i) ++ old.drop (3 * i), .own⟩ ++ [] ∧ e = [(0, .sl (some ⟨b, 0⟩) n cap gr), (1, i64 z), (4, i64 0), (5, i64 i)]) (k := n) ⟨0, k, by simp, by simp, by simp, by simp [mc]; exact (list_set_self hb).symm, rfl⟩ ?_
  rintro c e hh ⟨i, z, hz, rfl, hi, rfl, rfl⟩
  refine EvC.seq ?_
  refine EvC.seq ?_
  refine EvC.reg ?_
  refine EvOps.step (n := 0) rfl ?_
  refine EvOps.step (n := 0) rfl ?_
  refine EvOps.step (n := 0) rfl ?_
  refine EvOps.step (n := 0) rfl ?_
  refine EvOps.nil ?_
  simp only [KP, KH, KC, ↓reduceIte, Nat.reduceEqDiff, Nat.reduceAdd]
  refine EvC.condS rfl (fun hc => ?_) (fun hc => ?_)
  · first
     | cases hc; done
     | refine EvC.skip ?_
       refine EvC.seq ?_
       refine EvC.block ?_
       refine EvC.seq ?_
       refine EvC.reg ?_
       refine EvOps.step (n := 0) rfl ?_
       refine EvOps.step (n := 0) rfl ?_
       refine EvOps.step (n := 0) rfl ?_
       first | refine EvOps.cvtRoot rfl rfl ?_ | refine EvOps.step (n := 0) rfl ?_
       have hix : i < n := by simpa using hc
       first | refine EvOps.iaN rfl rfl (by omega) ?_
       refine EvOps.step (n := 0) rfl ?_
       refine EvOps.stB (b := b) (o := 0 + i * 3 + 0) (mc (kF k) (3 * i + 0 + 1) ++ old.drop (3 * i + 0 + 1)) rfl rfl (List.getElem?_set_self hbl) rfl (by rw [mc_len (by omega)]; first | omega | (dsimp only [Ref.add]; omega)) rfl (splice_mc (by omega) (by omega) (by
         exact congrArg (fun t => f32 (mf t)) (by omega : z = k + ((3 * i + 0 : Nat) : Int)))) ?_
       rw [List.set_set]
       refine EvOps.nil ?_
       simp only [KP, KH, KC, ↓reduceIte, Nat.reduceEqDiff, Nat.reduceAdd]
       refine EvC.seq ?_
       refine EvC.reg ?_
       refine EvOps.step (n := 0) rfl ?_
       first | refine EvOps.addI rfl rfl (by omega) ?_ | refine EvOps.step (n := 0) rfl ?_
       refine EvOps.step (n := 0) rfl ?_
       refine EvOps.nil ?_
       simp only [KP, KH, KC, ↓reduceIte, Nat.reduceEqDiff, Nat.reduceAdd]
       refine EvC.seq ?_
       refine EvC.reg ?_
       refine EvOps.step (n := 0) rfl ?_
       refine EvOps.step (n := 0) rfl ?_
       refine EvOps.step (n := 0) rfl ?_
       first | refine EvOps.cvtRoot rfl rfl ?_ | refine EvOps.step (n := 0) rfl ?_
       first | refine EvOps.iaN rfl rfl (by omega) ?_
       refine EvOps.step (n := 0) rfl ?_
       refine EvOps.stB (b := b) (o := 0 + i * 3 + 1) (mc (kF k) (3 * i + 1 + 1) ++ old.drop (3 * i + 1 + 1)) rfl rfl (List.getElem?_set_self hbl) rfl (by rw [mc_len (by omega)]; first | omega | (dsimp only [Ref.add]; omega)) rfl (splice_mc (by omega) (by omega) (by
         exact congrArg (fun t => f32 (mf t)) (by omega : z + 1 = k + ((3 * i + 1 : Nat) : Int)))) ?_
       rw [List.set_set]
       refine EvOps.nil ?_
       simp only [KP, KH, KC, ↓reduceIte, Nat.reduceEqDiff, Nat.reduceAdd]
       refine EvC.seq ?_
       refine EvC.reg ?_
       refine EvOps.step (n := 0) rfl ?_
       first | refine EvOps.addI rfl rfl (by omega) ?_ | refine EvOps.step (n := 0) rfl ?_
       refine EvOps.step (n := 0) rfl ?_
       refine EvOps.nil ?_
       simp only [KP, KH, KC, ↓reduceIte, Nat.reduceEqDiff, Nat.reduceAdd]
       refine EvC.seq ?_
       refine EvC.reg ?_
       refine EvOps.step (n := 0) rfl ?_
       refine EvOps.step (n := 0) rfl ?_
       refine EvOps.step (n := 0) rfl ?_
       first | refine EvOps.cvtRoot rfl rfl ?_ | refine EvOps.step (n := 0) rfl ?_
       first | refine EvOps.iaN rfl rfl (by omega) ?_
       refine EvOps.step (n := 0) rfl ?_
       refine EvOps.stB (b := b) (o := 0 + i * 3 + 2) (mc (kF k) (3 * i + 2 + 1) ++ old.drop (3 * i + 2 + 1)) rfl rfl (List.getElem?_set_self hbl) rfl (by rw [mc_len (by omega)]; first | omega | (dsimp only [Ref.add]; omega)) rfl (splice_mc (by omega) (by omega) (by
         exact congrArg (fun t => f32 (mf t)) (by omega : z + 1 + 1 = k + ((3 * i + 2 : Nat) : Int)))) ?_
       rw [List.set_set]
       refine EvOps.nil ?_
       simp only [KP, KH, KC, ↓reduceIte, Nat.reduceEqDiff, Nat.reduceAdd]
       refine EvC.reg ?_
       refine EvOps.step (n := 0) rfl ?_
       first | refine EvOps.addI rfl rfl (by omega) ?_ | refine EvOps.step (n := 0) rfl ?_
       refine EvOps.step (n := 0) rfl ?_
       refine EvOps.nil ?_
       simp only [KP, KH, KC, ↓reduceIte, Nat.reduceEqDiff, Nat.reduceAdd]
       refine EvC.reg ?_
       refine EvOps.step (n := 0) rfl ?_
       first | refine EvOps.addI rfl rfl (by omega) ?_ | refine EvOps.step (n := 0) rfl ?_
       refine EvOps.step (n := 0) rfl ?_
       refine EvOps.nil ?_
       simp only [KP, KH, KC, ↓reduceIte, Nat.reduceEqDiff, Nat.reduceAdd]
       exact ⟨n - (i + 1), by omega, i + 1, z + 1 + 1 + 1, by omega, (by first | rfl | trivial), by omega, (by first | rfl | trivial), (by first | rfl | trivial)⟩
  · first
     | cases hc; done
     | refine EvC.exit ?_
       refine EvC.seq ?_
       refine EvC.reg ?_
       refine EvOps.step (n := 0) rfl ?_
       refine EvOps.step (n := 0) rfl ?_
       refine EvOps.nil ?_
       simp only [KP, KH, KC, ↓reduceIte, Nat.reduceEqDiff, Nat.reduceAdd]
       refine EvC.ret ?_
       refine Res.finR rfl ?_
       have hil : i = n := by simp at hc; omega
       subst hil
       subst hz
       rw [List.drop_eq_nil_of_le (by omega), List.append_nil (mc (kF k) (3 * i))]
       refine Neat.no (by rfl) ((Chg.refl h).set b (blk := ⟨mc (kF k) (3 * i), .own⟩) (mc_lim _ (kF_lim k _) _)) ?_
       exact hq
/-- laws.markBoolS -/
theorem w55 {b cap n : Nat} {gr : Option Nat} {k : Int} {old : List AV} (hb : h[b]? = some ⟨old, .own⟩) (hn : old.length = 1 * n) (hk : 0 ≤ k ∧ k + 1 * n < 2 ^ 60) (hq : Q (i64 (k + ((1 * n : Nat) : Int))) (h.set b ⟨mc (kB k) (1 * n), .own⟩)) : W Φ 55 [.sl (some ⟨b, 0⟩) n cap gr, i64 k] h Q := by
  have hbl := at_lt hb
  refine W.neatL (F := F55) rfl ?_
  refine EvC.seq ?_
  refine EvC.reg ?_
  refine EvOps.step (n := 0) rfl ?_
  refine EvOps.nil ?_
  simp only [KP, KH, KC, ↓reduceIte, Nat.reduceEqDiff, Nat.reduceAdd]
  refine EvC.seq ?_
  refine EvC.seq ?_
  refine EvC.reg ?_
  refine EvOps.step (n := 0) rfl ?_
  refine EvOps.nil ?_
  simp only [KP, KH, KC, ↓reduceIte, Nat.reduceEqDiff, Nat.reduceAdd]
  refine EvC.block ?_
  refine EvC.loop (fun c e hh => ∃ (i : Nat) (z : Int), z = k + ((1 * i : Nat) : Int) ∧ c = n - i ∧ i ≤ n ∧ hh = h.set b ⟨mc (kB k) (1 * i) ++ old.drop (1 * i), .own⟩ ++ [] ∧ e = [(0, .sl (some ⟨b, 0⟩) n cap gr), (1, i64 z), (4, i64 0), (5, i64 i)]) (k := n) ⟨0, k, by simp, by simp, by simp, by simp [mc]; exact (list_set_self hb).symm, rfl⟩ ?_
  rintro c e hh ⟨i, z, hz, rfl, hi, rfl, rfl⟩
  refine EvC.seq ?_
  refine EvC.seq ?_
  refine EvC.reg ?_
  refine EvOps.step (n := 0) rfl ?_
  refine EvOps.step (n := 0) rfl ?_
  refine EvOps.step (n := 0) rfl ?_
  refine EvOps.step (n := 0) rfl ?_
  refine EvOps.nil ?_
  simp only [KP, KH, KC, ↓reduceIte, Nat.reduceEqDiff, Nat.reduceAdd]
  refine EvC.condS rfl (fun hc => ?_) (fun hc => ?_)
  · first
     | cases hc; done
     | refine EvC.skip ?_
       refine EvC.seq ?_
       refine EvC.block ?_
       refine EvC.seq ?_
       refine EvC.reg ?_
       refine EvOps.step (n := 0) rfl ?_
       refine EvOps.step (n := 0) rfl ?_
       refine EvOps.step (n := 0) rfl ?_
       refine EvOps.step (n := 0) rfl ?_
       refine EvOps.step (n := 0) rfl ?_
       have hix : i < n := by simpa using hc
       first | refine EvOps.iaN rfl rfl (by omega) ?_
       refine EvOps.stB (b := b) (o := 0 + i * 1) (mc (kB k) (1 * i + 0 + 1) ++ old.drop (1 * i + 0 + 1)) rfl rfl (List.getElem?_set_self hbl) rfl (by rw [mc_len (by omega)]; first | omega | (dsimp only [Ref.add]; omega)) rfl (splice_mc (by omega) (by omega) (by
         exact congrArg (fun t => AV.b (t.tmod 3 == 0)) (by omega : z = k + ((1 * i + 0 : Nat) : Int)))) ?_
       rw [List.set_set]
       refine EvOps.nil ?_
       simp only [KP, KH, KC, ↓reduceIte, Nat.reduceEqDiff, Nat.reduceAdd]
       refine EvC.reg ?_
       refine EvOps.step (n := 0) rfl ?_
       first | refine EvOps.addI rfl rfl (by omega) ?_ | refine EvOps.step (n := 0) rfl ?_
       refine EvOps.step (n := 0) rfl ?_
       refine EvOps.nil ?_
       simp only [KP, KH, KC, ↓reduceIte, Nat.reduceEqDiff, Nat.reduceAdd]
       refine EvC.reg ?_
       refine EvOps.step (n := 0) rfl ?_
       first | refine EvOps.addI rfl rfl (by omega) ?_ | refine EvOps.step (n := 0) rfl ?_
       refine EvOps.step (n := 0) rfl ?_
       refine EvOps.nil ?_
       simp only [KP, KH, KC, ↓reduceIte, Nat.reduceEqDiff, Nat.reduceAdd]
       exact ⟨n - (i + 1), by omega, i + 1, z + 1, by omega, (by first | rfl | trivial), by omega, (by first | rfl | trivial), (by first | rfl | trivial)⟩
  · first
     | cases hc; done
     | refine EvC.exit ?_
       refine EvC.seq ?_
       refine EvC.reg ?_
       refine EvOps.step (n := 0) rfl ?_
       refine EvOps.step (n := 0) rfl ?_
       refine EvOps.nil ?_
       simp only [KP, KH, KC, ↓reduceIte, Nat.reduceEqDiff, Nat.reduceAdd]
       refine EvC.ret ?_
       refine Res.finR rfl ?_
       have hil : i = n := by simp at hc; omega
       subst hil
       subst hz
       rw [List.drop_eq_nil_of_le (by omega), List.append_nil (mc (kB k) (1 * i))]
       refine Neat.no (by rfl) ((Chg.refl h).set b (blk := ⟨mc (kB k) (1 * i), .own⟩) (mc_lim _ (kB_lim k _) _)) ?_
       exact hq
/-- laws.markFloat32S -/
theorem w56 {b cap n : Nat} {gr : Option Nat} {k : Int} {old : List AV} (hb : h[b]? = some ⟨old, .own⟩) (hn : old.length = 1 * n) (hk : 0 ≤ k ∧ k + 1 * n < 2 ^ 60) (hq : Q (i64 (k + ((1 * n : Nat) : Int))) (h.set b ⟨mc (kF k) (1 * n), .own⟩)) : W Φ 56 [.sl (some ⟨b, 0⟩) n cap gr, i64 k] h Q := by
  have hbl := at_lt hb
  refine W.neatL (F := F56) rfl ?_
  refine EvC.seq ?_
  refine EvC.reg ?_
  refine EvOps.step (n := 0) rfl ?_
  refine EvOps.nil ?_
  simp only [KP, KH, KC, ↓reduceIte, Nat.reduceEqDiff, Nat.reduceAdd]
  refine EvC.seq ?_
  refine EvC.seq ?_
  refine EvC.reg ?_
  refine EvOps.step (n := 0) rfl ?_
  refine EvOps.nil ?_
  simp only [KP, KH, KC, ↓reduceIte, Nat.reduceEqDiff, Nat.reduceAdd]
  refine EvC.block ?_
  refine EvC.loop (fun c e hh => ∃ (i : Nat) (z : Int), z = k + ((1 * i : Nat) : Int) ∧ c = n - i ∧ i ≤ n ∧ hh = h.set b ⟨mc (kF k) (1 * i) ++ old.drop (1 * i), .own⟩ ++ [] ∧ e = [(0, .sl (some ⟨b, 0⟩) n cap gr), (1, i64 z), (4, i64 0), (5, i64 i)]) (k := n) ⟨0, k, by simp, by simp, by simp, by simp [mc]; exact (list_set_self hb).symm, rfl⟩ ?_
  rintro c e hh ⟨i, z, hz, rfl, hi, rfl, rfl⟩
  refine EvC.seq ?_
  refine EvC.seq ?_
  refine EvC.reg ?_
  refine EvOps.step (n := 0) rfl ?_
  refine EvOps.step (n := 0) rfl ?_
  refine EvOps.step (n := 0) rfl ?_
  refine EvOps.step (n := 0) rfl ?_
  refine EvOps.nil ?_
  simp only [KP, KH, KC, ↓reduceIte, Nat.reduceEqDiff, Nat.reduceAdd]
  refine EvC.condS rfl (fun hc => ?_) (fun hc => ?_)
  · first
     | cases hc; done
     | refine EvC.skip ?_
       refine EvC.seq ?_
       refine EvC.block ?_
       refine EvC.seq ?_
       refine EvC.reg ?_
       refine EvOps.step (n := 0) rfl ?_
       refine EvOps.step (n := 0) rfl ?_
       refine EvOps.step (n := 0) rfl ?_
       first | refine EvOps.cvtRoot rfl rfl ?_ | refine EvOps.step (n := 0) rfl ?_
       have hix : i < n := by simpa using hc
       first | refine EvOps.iaN rfl rfl (by omega) ?_
       refine EvOps.stB (b := b) (o := 0 + i * 1) (mc (kF k) (1 * i + 0 + 1) ++ old.drop (1 * i + 0 + 1)) rfl rfl (List.getElem?_set_self hbl) rfl (by rw [mc_len (by omega)]; first | omega | (dsimp only [Ref.add]; omega)) rfl (splice_mc (by omega) (by omega) (by
         exact congrArg (fun t => f32 (mf t)) (by omega : z = k + ((1 * i + 0 : Nat) : Int)))) ?_
       rw [List.set_set]
       refine EvOps.nil ?_
       simp only [KP, KH, KC, ↓reduceIte, Nat.reduceEqDiff, Nat.reduceAdd]
       refine EvC.reg ?_
       refine EvOps.step (n := 0) rfl ?_
       first | refine EvOps.addI rfl rfl (by omega) ?_ | refine EvOps.step (n := 0) rfl ?_
       refine EvOps.step (n := 0) rfl ?_
       refine EvOps.nil ?_
       simp only [KP, KH, KC, ↓reduceIte, Nat.reduceEqDiff, Nat.reduceAdd]
       refine EvC.reg ?_
       refine EvOps.step (n := 0) rfl ?_
       first | refine EvOps.addI rfl rfl (by omega) ?_ | refine EvOps.step (n := 0) rfl ?_
       refine EvOps.step (n := 0) rfl ?_
       refine EvOps.nil ?_
       simp only [KP, KH, KC, ↓reduceIte, Nat.reduceEqDiff, Nat.reduceAdd]
       exact ⟨n - (i + 1), by omega, i + 1, z + 1, by omega, (by first | rfl | trivial), by omega, (by first | rfl | trivial), (by first | rfl | trivial)⟩
  · first
     | cases hc; done
     | refine EvC.exit ?_
       refine EvC.seq ?_
       refine EvC.reg ?_
       refine EvOps.step (n := 0) rfl ?_
       refine EvOps.step (n := 0) rfl ?_
       refine EvOps.nil ?_
       simp only [KP, KH, KC, ↓reduceIte, Nat.reduceEqDiff, Nat.reduceAdd]
       refine EvC.ret ?_
       refine Res.finR rfl ?_
       have hil : i = n := by simp at hc; omega
       subst hil
       subst hz
       rw [List.drop_eq_nil_of_le (by omega), List.append_nil (mc (kF k) (1 * i))]
       refine Neat.no (by rfl) ((Chg.refl h).set b (blk := ⟨mc (kF k) (1 * i), .own⟩) (mc_lim _ (kF_lim k _) _)) ?_
       exact hq
/-- laws.heldVectorS -/
theorem w57 {b cap n : Nat} {gr : Option Nat} {k : Int} (hb : h[b]? = some ⟨mc (kF k) (3 * n), .own⟩) (hk : 0 ≤ k ∧ k + 3 * n < 2 ^ 60) (hq : Q (i64 (k + ((3 * n : Nat) : Int))) h) : W Φ 57 [.sl (some ⟨b, 0⟩) n cap gr, i64 k] h Q := by
  refine W.dropL (F := F57) rfl ?_
  refine EvC.seq ?_
  refine EvC.reg ?_
  refine EvOps.step (n := 0) rfl ?_
  refine EvOps.nil ?_
  simp only [KP, KH, KC, ↓reduceIte, Nat.reduceEqDiff, Nat.reduceAdd]
  refine EvC.seq ?_
  refine EvC.seq ?_
  refine EvC.reg ?_
  refine EvOps.step (n := 0) rfl ?_
  refine EvOps.nil ?_
  simp only [KP, KH, KC, ↓reduceIte, Nat.reduceEqDiff, Nat.reduceAdd]
  refine EvC.block ?_
  refine EvC.loop (fun c e hh => ∃ (i : Nat) (z : Int), z = k + ((3 * i : Nat) : Int) ∧ c = n - i ∧ i ≤ n ∧ hh = h ++ [] ∧ e = [(0, .sl (some ⟨b, 0⟩) n cap gr), (1, i64 z), (4, i64 0), (5, i64 i)]) (k := n) ⟨0, k, by simp, by simp, by simp, by simp, rfl⟩ ?_
  rintro c e hh ⟨i, z, hz, rfl, hi, rfl, rfl⟩
  refine EvC.seq ?_
  refine EvC.seq ?_
  refine EvC.reg ?_
  refine EvOps.step (n := 0) rfl ?_
  refine EvOps.step (n := 0) rfl ?_
  refine EvOps.step (n := 0) rfl ?_
  refine EvOps.step (n := 0) rfl ?_
  refine EvOps.nil ?_
  simp only [KP, KH, KC, ↓reduceIte, Nat.reduceEqDiff, Nat.reduceAdd]
  refine EvC.condS rfl (fun hc => ?_) (fun hc => ?_)
  · first
     | cases hc; done
     | refine EvC.skip ?_
       refine EvC.seq ?_
       refine EvC.block ?_
       refine EvC.seq ?_
       refine EvC.seq ?_
       refine EvC.reg ?_
       refine EvOps.step (n := 0) rfl ?_
       refine EvOps.step (n := 0) rfl ?_
       have hix : i < n := by simpa using hc
       clear hc
       first | refine EvOps.iaN rfl rfl (by omega) ?_
       refine EvOps.step (n := 0) rfl ?_
       have hv : kF k (3 * i + 0) = kF k (3 * i + 0) := rfl
       refine EvOps.ldH (v := kF k (3 * i + 0)) rfl rfl (by rw [← hv]; exact rd_block hb (by decide) (mc_get (by dsimp only [Ref.add]; omega) (by omega))) ?_
       clear hv
       refine EvOps.step (n := 0) rfl ?_
       first | refine EvOps.cvtRoot rfl rfl ?_ | refine EvOps.step (n := 0) rfl ?_
       refine EvOps.step (n := 0) rfl ?_
       refine EvOps.nil ?_
       simp only [KP, KH, KC, ↓reduceIte, Nat.reduceEqDiff, Nat.reduceAdd]
       refine EvC.condS rfl (fun hc => ?_) (fun hc => ?_)
       · first
          | cases hc; done
          | refine EvC.seq ?_
            refine EvC.reg ?_
            refine EvOps.step (n := 0) rfl ?_
            refine EvOps.nil ?_
            simp only [KP, KH, KC, ↓reduceIte, Nat.reduceEqDiff, Nat.reduceAdd]
            refine EvC.ret ?_
            refine Res.finR rfl ?_
            rw [mf_eq (by omega)] at hc; exact absurd hc (by decide)
       · first
          | cases hc; done
          | refine EvC.skip ?_
            refine EvC.seq ?_
            refine EvC.reg ?_
            refine EvOps.step (n := 0) rfl ?_
            first | refine EvOps.addI rfl rfl (by omega) ?_ | refine EvOps.step (n := 0) rfl ?_
            refine EvOps.step (n := 0) rfl ?_
            refine EvOps.nil ?_
            simp only [KP, KH, KC, ↓reduceIte, Nat.reduceEqDiff, Nat.reduceAdd]
            refine EvC.seq ?_
            refine EvC.seq ?_
            refine EvC.reg ?_
            refine EvOps.step (n := 0) rfl ?_
            refine EvOps.step (n := 0) rfl ?_
            first | refine EvOps.iaN rfl rfl (by omega) ?_
            refine EvOps.step (n := 0) rfl ?_
            have hv : kF k (3 * i + 1) = kF k (3 * i + 1) := rfl
            refine EvOps.ldH (v := kF k (3 * i + 1)) rfl rfl (by rw [← hv]; exact rd_block hb (by decide) (mc_get (by dsimp only [Ref.add]; omega) (by omega))) ?_
            clear hv
            refine EvOps.step (n := 0) rfl ?_
            first | refine EvOps.cvtRoot rfl rfl ?_ | refine EvOps.step (n := 0) rfl ?_
            refine EvOps.step (n := 0) rfl ?_
            refine EvOps.nil ?_
            simp only [KP, KH, KC, ↓reduceIte, Nat.reduceEqDiff, Nat.reduceAdd]
            refine EvC.condS rfl (fun hc => ?_) (fun hc => ?_)
            · first
               | cases hc; done
               | refine EvC.seq ?_
                 refine EvC.reg ?_
                 refine EvOps.step (n := 0) rfl ?_
                 refine EvOps.nil ?_
                 simp only [KP, KH, KC, ↓reduceIte, Nat.reduceEqDiff, Nat.reduceAdd]
                 refine EvC.ret ?_
                 refine Res.finR rfl ?_
                 rw [mf_eq (by omega)] at hc; exact absurd hc (by decide)
            · first
               | cases hc; done
               | refine EvC.skip ?_
                 refine EvC.seq ?_
                 refine EvC.reg ?_
                 refine EvOps.step (n := 0) rfl ?_
                 first | refine EvOps.addI rfl rfl (by omega) ?_ | refine EvOps.step (n := 0) rfl ?_
                 refine EvOps.step (n := 0) rfl ?_
                 refine EvOps.nil ?_
                 simp only [KP, KH, KC, ↓reduceIte, Nat.reduceEqDiff, Nat.reduceAdd]
                 refine EvC.seq ?_
                 refine EvC.seq ?_
                 refine EvC.reg ?_
                 refine EvOps.step (n := 0) rfl ?_
                 refine EvOps.step (n := 0) rfl ?_
                 first | refine EvOps.iaN rfl rfl (by omega) ?_
                 refine EvOps.step (n := 0) rfl ?_
                 have hv : kF k (3 * i + 2) = kF k (3 * i + 2) := rfl
                 refine EvOps.ldH (v := kF k (3 * i + 2)) rfl rfl (by rw [← hv]; exact rd_block hb (by decide) (mc_get (by dsimp only [Ref.add]; omega) (by omega))) ?_
                 clear hv
                 refine EvOps.step (n := 0) rfl ?_
                 first | refine EvOps.cvtRoot rfl rfl ?_ | refine EvOps.step (n := 0) rfl ?_
                 refine EvOps.step (n := 0) rfl ?_
                 refine EvOps.nil ?_
                 simp only [KP, KH, KC, ↓reduceIte, Nat.reduceEqDiff, Nat.reduceAdd]
                 refine EvC.condS rfl (fun hc => ?_) (fun hc => ?_)
                 · first
                    | cases hc; done
                    | refine EvC.seq ?_
                      refine EvC.reg ?_
                      refine EvOps.step (n := 0) rfl ?_
                      refine EvOps.nil ?_
                      simp only [KP, KH, KC, ↓reduceIte, Nat.reduceEqDiff, Nat.reduceAdd]
                      refine EvC.ret ?_
                      refine Res.finR rfl ?_
                      rw [mf_eq (by omega)] at hc; exact absurd hc (by decide)
                 · first
                    | cases hc; done
                    | refine EvC.skip ?_
                      refine EvC.reg ?_
                      refine EvOps.step (n := 0) rfl ?_
                      first | refine EvOps.addI rfl rfl (by omega) ?_ | refine EvOps.step (n := 0) rfl ?_
                      refine EvOps.step (n := 0) rfl ?_
                      refine EvOps.nil ?_
                      simp only [KP, KH, KC, ↓reduceIte, Nat.reduceEqDiff, Nat.reduceAdd]
                      refine EvC.reg ?_
                      refine EvOps.step (n := 0) rfl ?_
                      first | refine EvOps.addI rfl rfl (by omega) ?_ | refine EvOps.step (n := 0) rfl ?_
                      refine EvOps.step (n := 0) rfl ?_
                      refine EvOps.nil ?_
                      simp only [KP, KH, KC, ↓reduceIte, Nat.reduceEqDiff, Nat.reduceAdd]
                      exact ⟨n - (i + 1), by omega, i + 1, z + 1 + 1 + 1, by omega, (by first | rfl | trivial), by omega, (by first | rfl | trivial), (by first | rfl | trivial)⟩
  · first
     | cases hc; done
     | refine EvC.exit ?_
       refine EvC.seq ?_
       refine EvC.reg ?_
       refine EvOps.step (n := 0) rfl ?_
       refine EvOps.step (n := 0) rfl ?_
       refine EvOps.nil ?_
       simp only [KP, KH, KC, ↓reduceIte, Nat.reduceEqDiff, Nat.reduceAdd]
       refine EvC.ret ?_
       refine Res.finR rfl ?_
       have hil : i = n := by simp at hc; omega
       subst hil
       subst hz
       exact ⟨List.prefix_append _ _, rfl, hq⟩
/-- laws.heldBoolS -/
theorem w58 {b cap n : Nat} {gr : Option Nat} {k : Int} (hb : h[b]? = some ⟨mc (kB k) (1 * n), .own⟩) (hk : 0 ≤ k ∧ k + 1 * n < 2 ^ 60) (hq : Q (i64 (k + ((1 * n : Nat) : Int))) h) : W Φ 58 [.sl (some ⟨b, 0⟩) n cap gr, i64 k] h Q := by
  refine W.dropL (F := F58) rfl ?_
  refine EvC.seq ?_
  refine EvC.reg ?_
  refine EvOps.step (n := 0) rfl ?_
  refine EvOps.nil ?_
  simp only [KP, KH, KC, ↓reduceIte, Nat.reduceEqDiff, Nat.reduceAdd]
  refine EvC.seq ?_
  refine EvC.seq ?_
  refine EvC.reg ?_
  refine EvOps.step (n := 0) rfl ?_
  refine EvOps.nil ?_
  simp only [KP, KH, KC, ↓reduceIte, Nat.reduceEqDiff, Nat.reduceAdd]
  refine EvC.block ?_
  refine EvC.loop (fun c e hh => ∃ (i : Nat) (z : Int), z = k + ((1 * i : Nat) : Int) ∧ c = n - i ∧ i ≤ n ∧ hh = h ++ [] ∧ e = [(0, .sl (some ⟨b, 0⟩) n cap gr), (1, i64 z), (4, i64 0), (5, i64 i)]) (k := n) ⟨0, k, by simp, by simp, by simp, by simp, rfl⟩ ?_
  rintro c e hh ⟨i, z, hz, rfl, hi, rfl, rfl⟩
  refine EvC.seq ?_
  refine EvC.seq ?_
  refine EvC.reg ?_
  refine EvOps.step (n := 0) rfl ?_
  refine EvOps.step (n := 0) rfl ?_
  refine EvOps.step (n := 0) rfl ?_
  refine EvOps.step (n := 0) rfl ?_
  refine EvOps.nil ?_
  simp only [KP, KH, KC, ↓reduceIte, Nat.reduceEqDiff, Nat.reduceAdd]
  refine EvC.condS rfl (fun hc => ?_) (fun hc => ?_)
  · first
     | cases hc; done
     | refine EvC.skip ?_
       refine EvC.seq ?_
       refine EvC.block ?_
       refine EvC.seq ?_
       refine EvC.seq ?_
       refine EvC.reg ?_
       refine EvOps.step (n := 0) rfl ?_
       refine EvOps.step (n := 0) rfl ?_
       have hix : i < n := by simpa using hc
       clear hc
       first | refine EvOps.iaN rfl rfl (by omega) ?_
       have hv : kB k (1 * i + 0) = kB k (1 * i + 0) := rfl
       refine EvOps.ldH (v := kB k (1 * i + 0)) rfl rfl (by rw [← hv]; exact rd_block hb (by decide) (mc_get (by dsimp only [Ref.add]; omega) (by omega))) ?_
       clear hv
       refine EvOps.step (n := 0) rfl ?_
       refine EvOps.step (n := 0) rfl ?_
       refine EvOps.step (n := 0) rfl ?_
       refine EvOps.step (n := 0) rfl ?_
       refine EvOps.nil ?_
       simp only [KP, KH, KC, ↓reduceIte, Nat.reduceEqDiff, Nat.reduceAdd]
       refine EvC.condS rfl (fun hc => ?_) (fun hc => ?_)
       · first
          | cases hc; done
          | refine EvC.seq ?_
            refine EvC.reg ?_
            refine EvOps.step (n := 0) rfl ?_
            refine EvOps.nil ?_
            simp only [KP, KH, KC, ↓reduceIte, Nat.reduceEqDiff, Nat.reduceAdd]
            refine EvC.ret ?_
            refine Res.finR rfl ?_
            exact absurd hc (by rw [show z = k + ((1 * i + 0 : Nat) : Int) by omega]; simp)
       · first
          | cases hc; done
          | refine EvC.skip ?_
            refine EvC.reg ?_
            refine EvOps.step (n := 0) rfl ?_
            first | refine EvOps.addI rfl rfl (by omega) ?_ | refine EvOps.step (n := 0) rfl ?_
            refine EvOps.step (n := 0) rfl ?_
            refine EvOps.nil ?_
            simp only [KP, KH, KC, ↓reduceIte, Nat.reduceEqDiff, Nat.reduceAdd]
            refine EvC.reg ?_
            refine EvOps.step (n := 0) rfl ?_
            first | refine EvOps.addI rfl rfl (by omega) ?_ | refine EvOps.step (n := 0) rfl ?_
            refine EvOps.step (n := 0) rfl ?_
            refine EvOps.nil ?_
            simp only [KP, KH, KC, ↓reduceIte, Nat.reduceEqDiff, Nat.reduceAdd]
            exact ⟨n - (i + 1), by omega, i + 1, z + 1, by omega, (by first | rfl | trivial), by omega, (by first | rfl | trivial), (by first | rfl | trivial)⟩
  · first
     | cases hc; done
     | refine EvC.exit ?_
       refine EvC.seq ?_
       refine EvC.reg ?_
       refine EvOps.step (n := 0) rfl ?_
       refine EvOps.step (n := 0) rfl ?_
       refine EvOps.nil ?_
       simp only [KP, KH, KC, ↓reduceIte, Nat.reduceEqDiff, Nat.reduceAdd]
       refine EvC.ret ?_
       refine Res.finR rfl ?_
       have hil : i = n := by simp at hc; omega
       subst hil
       subst hz
       exact ⟨List.prefix_append _ _, rfl, hq⟩
/-- laws.heldFloat32S -/
theorem w59 {b cap n : Nat} {gr : Option Nat} {k : Int} (hb : h[b]? = some ⟨mc (kF k) (1 * n), .own⟩) (hk : 0 ≤ k ∧ k + 1 * n < 2 ^ 60) (hq : Q (i64 (k + ((1 * n : Nat) : Int))) h) : W Φ 59 [.sl (some ⟨b, 0⟩) n cap gr, i64 k] h Q := by
  refine W.dropL (F := F59) rfl ?_
  refine EvC.seq ?_
  refine EvC.reg ?_
  refine EvOps.step (n := 0) rfl ?_
  refine EvOps.nil ?_
  simp only [KP, KH, KC, ↓reduceIte, Nat.reduceEqDiff, Nat.reduceAdd]
  refine EvC.seq ?_
  refine EvC.seq ?_
  refine EvC.reg ?_
  refine EvOps.step (n := 0) rfl ?_
  refine EvOps.nil ?_
  simp only [KP, KH, KC, ↓reduceIte, Nat.reduceEqDiff, Nat.reduceAdd]
  refine EvC.block ?_
  refine EvC.loop (fun c e hh => ∃ (i : Nat) (z : Int), z = k + ((1 * i : Nat) : Int) ∧ c = n - i ∧ i ≤ n ∧ hh = h ++ [] ∧ e = [(0, .sl (some ⟨b, 0⟩) n cap gr), (1, i64 z), (4, i64 0), (5, i64 i)]) (k := n) ⟨0, k, by simp, by simp, by simp, by simp, rfl⟩ ?_
  rintro c e hh ⟨i, z, hz, rfl, hi, rfl, rfl⟩
  refine EvC.seq ?_
  refine EvC.seq ?_
  refine EvC.reg ?_
  refine EvOps.step (n := 0) rfl ?_
  refine EvOps.step (n := 0) rfl ?_
  refine EvOps.step (n := 0) rfl ?_
  refine EvOps.step (n := 0) rfl ?_
  refine EvOps.nil ?_
  simp only [KP, KH, KC, ↓reduceIte, Nat.reduceEqDiff, Nat.reduceAdd]
  refine EvC.condS rfl (fun hc => ?_) (fun hc => ?_)
  · first
     | cases hc; done
     | refine EvC.skip ?_
       refine EvC.seq ?_
       refine EvC.block ?_
       refine EvC.seq ?_
       refine EvC.seq ?_
       refine EvC.reg ?_
       refine EvOps.step (n := 0) rfl ?_
       refine EvOps.step (n := 0) rfl ?_
       have hix : i < n := by simpa using hc
       clear hc
       first | refine EvOps.iaN rfl rfl (by omega) ?_
       have hv : kF k (1 * i + 0) = kF k (1 * i + 0) := rfl
       refine EvOps.ldH (v := kF k (1 * i + 0)) rfl rfl (by rw [← hv]; exact rd_block hb (by decide) (mc_get (by dsimp only [Ref.add]; omega) (by omega))) ?_
       clear hv
       refine EvOps.step (n := 0) rfl ?_
       first | refine EvOps.cvtRoot rfl rfl ?_ | refine EvOps.step (n := 0) rfl ?_
       refine EvOps.step (n := 0) rfl ?_
       refine EvOps.nil ?_
       simp only [KP, KH, KC, ↓reduceIte, Nat.reduceEqDiff, Nat.reduceAdd]
       refine EvC.condS rfl (fun hc => ?_) (fun hc => ?_)
       · first
          | cases hc; done
          | refine EvC.seq ?_
            refine EvC.reg ?_
            refine EvOps.step (n := 0) rfl ?_
            refine EvOps.nil ?_
            simp only [KP, KH, KC, ↓reduceIte, Nat.reduceEqDiff, Nat.reduceAdd]
            refine EvC.ret ?_
            refine Res.finR rfl ?_
            rw [mf_eq (by omega)] at hc; exact absurd hc (by decide)
       · first
          | cases hc; done
          | refine EvC.skip ?_
            refine EvC.reg ?_
            refine EvOps.step (n := 0) rfl ?_
            first | refine EvOps.addI rfl rfl (by omega) ?_ | refine EvOps.step (n := 0) rfl ?_
            refine EvOps.step (n := 0) rfl ?_
            refine EvOps.nil ?_
            simp only [KP, KH, KC, ↓reduceIte, Nat.reduceEqDiff, Nat.reduceAdd]
            refine EvC.reg ?_
            refine EvOps.step (n := 0) rfl ?_
            first | refine EvOps.addI rfl rfl (by omega) ?_ | refine EvOps.step (n := 0) rfl ?_
            refine EvOps.step (n := 0) rfl ?_
            refine EvOps.nil ?_
            simp only [KP, KH, KC, ↓reduceIte, Nat.reduceEqDiff, Nat.reduceAdd]
            exact ⟨n - (i + 1), by omega, i + 1, z + 1, by omega, (by first | rfl | trivial), by omega, (by first | rfl | trivial), (by first | rfl | trivial)⟩
  · first
     | cases hc; done
     | refine EvC.exit ?_
       refine EvC.seq ?_
       refine EvC.reg ?_
       refine EvOps.step (n := 0) rfl ?_
       refine EvOps.step (n := 0) rfl ?_
       refine EvOps.nil ?_
       simp only [KP, KH, KC, ↓reduceIte, Nat.reduceEqDiff, Nat.reduceAdd]
       refine EvC.ret ?_
       refine Res.finR rfl ?_
       have hil : i = n := by simp at hc; omega
       subst hil
       subst hz
       exact ⟨List.prefix_append _ _, rfl, hq⟩
/-- laws.szVectorS -/
theorem w40 {r : Option Ref} {n cap : Nat} {gr : Option Nat} {left : Int} (hn : n < 2 ^ 63) (hl : -1 ≤ left ∧ left < 2 ^ 40) (hq : ∀ r : Int, (r = -1 ∨ (0 ≤ r ∧ r = left - n)) → Q (i64 r) h) : W Φ 40 [.sl r n cap gr, i64 left] h Q := by
  refine W.dropL (F := F40) rfl ?_
  refine EvC.seq ?_
  refine EvC.reg ?_
  refine EvOps.step (n := 0) rfl ?_
  refine EvOps.nil ?_
  simp only [KP, KH, KC, ↓reduceIte, Nat.reduceEqDiff, Nat.reduceAdd]
  refine EvC.seq ?_
  refine EvC.reg ?_
  refine EvOps.step (n := 0) rfl ?_
  refine EvOps.step (n := 0) rfl ?_
  refine EvOps.step (n := 0) rfl ?_
  first | refine EvOps.subI rfl rfl (by omega) ?_ | refine EvOps.step (n := 0) rfl ?_
  refine EvOps.step (n := 0) rfl ?_
  refine EvOps.nil ?_
  simp only [KP, KH, KC, ↓reduceIte, Nat.reduceEqDiff, Nat.reduceAdd]
  refine EvC.seq ?_
  refine EvC.seq ?_
  refine EvC.reg ?_
  refine EvOps.step (n := 0) rfl ?_
  refine EvOps.step (n := 0) rfl ?_
  refine EvOps.nil ?_
  simp only [KP, KH, KC, ↓reduceIte, Nat.reduceEqDiff, Nat.reduceAdd]
  refine EvC.condS rfl (fun hc => ?_) (fun hc => ?_)
  · first
     | cases hc; done
     | refine EvC.seq ?_
       refine EvC.reg ?_
       refine EvOps.step (n := 0) rfl ?_
       refine EvOps.nil ?_
       simp only [KP, KH, KC, ↓reduceIte, Nat.reduceEqDiff, Nat.reduceAdd]
       refine EvC.ret ?_
       refine Res.finR rfl ?_
       refine ⟨List.prefix_append _ _, rfl, ?_⟩
       simp only [decide_eq_true_eq, decide_eq_false_iff_not] at hc
       exact hq _ (by omega)
  · first
     | cases hc; done
     | refine EvC.skip ?_
       refine EvC.seq ?_
       refine EvC.reg ?_
       refine EvOps.step (n := 0) rfl ?_
       refine EvOps.step (n := 0) rfl ?_
       refine EvOps.nil ?_
       simp only [KP, KH, KC, ↓reduceIte, Nat.reduceEqDiff, Nat.reduceAdd]
       refine EvC.ret ?_
       refine Res.finR rfl ?_
       refine ⟨List.prefix_append _ _, rfl, ?_⟩
       simp only [decide_eq_true_eq, decide_eq_false_iff_not] at hc
       exact hq _ (by omega)
/-- laws.szBoolS -/
theorem w41 {r : Option Ref} {n cap : Nat} {gr : Option Nat} {left : Int} (hn : n < 2 ^ 63) (hl : -1 ≤ left ∧ left < 2 ^ 40) (hq : ∀ r : Int, (r = -1 ∨ (0 ≤ r ∧ r = left - n)) → Q (i64 r) h) : W Φ 41 [.sl r n cap gr, i64 left] h Q := by
  refine W.dropL (F := F41) rfl ?_
  refine EvC.seq ?_
  refine EvC.reg ?_
  refine EvOps.step (n := 0) rfl ?_
  refine EvOps.nil ?_
  simp only [KP, KH, KC, ↓reduceIte, Nat.reduceEqDiff, Nat.reduceAdd]
  refine EvC.seq ?_
  refine EvC.reg ?_
  refine EvOps.step (n := 0) rfl ?_
  refine EvOps.step (n := 0) rfl ?_
  refine EvOps.step (n := 0) rfl ?_
  first | refine EvOps.subI rfl rfl (by omega) ?_ | refine EvOps.step (n := 0) rfl ?_
  refine EvOps.step (n := 0) rfl ?_
  refine EvOps.nil ?_
  simp only [KP, KH, KC, ↓reduceIte, Nat.reduceEqDiff, Nat.reduceAdd]
  refine EvC.seq ?_
  refine EvC.seq ?_
  refine EvC.reg ?_
  refine EvOps.step (n := 0) rfl ?_
  refine EvOps.step (n := 0) rfl ?_
  refine EvOps.nil ?_
  simp only [KP, KH, KC, ↓reduceIte, Nat.reduceEqDiff, Nat.reduceAdd]
  refine EvC.condS rfl (fun hc => ?_) (fun hc => ?_)
  · first
     | cases hc; done
     | refine EvC.seq ?_
       refine EvC.reg ?_
       refine EvOps.step (n := 0) rfl ?_
       refine EvOps.nil ?_
       simp only [KP, KH, KC, ↓reduceIte, Nat.reduceEqDiff, Nat.reduceAdd]
       refine EvC.ret ?_
       refine Res.finR rfl ?_
       refine ⟨List.prefix_append _ _, rfl, ?_⟩
       simp only [decide_eq_true_eq, decide_eq_false_iff_not] at hc
       exact hq _ (by omega)
  · first
     | cases hc; done
     | refine EvC.skip ?_
       refine EvC.seq ?_
       refine EvC.reg ?_
       refine EvOps.step (n := 0) rfl ?_
       refine EvOps.step (n := 0) rfl ?_
       refine EvOps.nil ?_
       simp only [KP, KH, KC, ↓reduceIte, Nat.reduceEqDiff, Nat.reduceAdd]
       refine EvC.ret ?_
       refine Res.finR rfl ?_
       refine ⟨List.prefix_append _ _, rfl, ?_⟩
       simp only [decide_eq_true_eq, decide_eq_false_iff_not] at hc
       exact hq _ (by omega)
/-- laws.szFloat32S -/
theorem w42 {r : Option Ref} {n cap : Nat} {gr : Option Nat} {left : Int} (hn : n < 2 ^ 63) (hl : -1 ≤ left ∧ left < 2 ^ 40) (hq : ∀ r : Int, (r = -1 ∨ (0 ≤ r ∧ r = left - n)) → Q (i64 r) h) : W Φ 42 [.sl r n cap gr, i64 left] h Q := by
  refine W.dropL (F := F42) rfl ?_
  refine EvC.seq ?_
  refine EvC.reg ?_
  refine EvOps.step (n := 0) rfl ?_
  refine EvOps.nil ?_
  simp only [KP, KH, KC, ↓reduceIte, Nat.reduceEqDiff, Nat.reduceAdd]
  refine EvC.seq ?_
  refine EvC.reg ?_
  refine EvOps.step (n := 0) rfl ?_
  refine EvOps.step (n := 0) rfl ?_
  refine EvOps.step (n := 0) rfl ?_
  first | refine EvOps.subI rfl rfl (by omega) ?_ | refine EvOps.step (n := 0) rfl ?_
  refine EvOps.step (n := 0) rfl ?_
  refine EvOps.nil ?_
  simp only [KP, KH, KC, ↓reduceIte, Nat.reduceEqDiff, Nat.reduceAdd]
  refine EvC.seq ?_
  refine EvC.seq ?_
  refine EvC.reg ?_
  refine EvOps.step (n := 0) rfl ?_
  refine EvOps.step (n := 0) rfl ?_
  refine EvOps.nil ?_
  simp only [KP, KH, KC, ↓reduceIte, Nat.reduceEqDiff, Nat.reduceAdd]
  refine EvC.condS rfl (fun hc => ?_) (fun hc => ?_)
  · first
     | cases hc; done
     | refine EvC.seq ?_
       refine EvC.reg ?_
       refine EvOps.step (n := 0) rfl ?_
       refine EvOps.nil ?_
       simp only [KP, KH, KC, ↓reduceIte, Nat.reduceEqDiff, Nat.reduceAdd]
       refine EvC.ret ?_
       refine Res.finR rfl ?_
       refine ⟨List.prefix_append _ _, rfl, ?_⟩
       simp only [decide_eq_true_eq, decide_eq_false_iff_not] at hc
       exact hq _ (by omega)
  · first
     | cases hc; done
     | refine EvC.skip ?_
       refine EvC.seq ?_
       refine EvC.reg ?_
       refine EvOps.step (n := 0) rfl ?_
       refine EvOps.step (n := 0) rfl ?_
       refine EvOps.nil ?_
       simp only [KP, KH, KC, ↓reduceIte, Nat.reduceEqDiff, Nat.reduceAdd]
       refine EvC.ret ?_
       refine Res.finR rfl ?_
       refine ⟨List.prefix_append _ _, rfl, ?_⟩
       simp only [decide_eq_true_eq, decide_eq_false_iff_not] at hc
       exact hq _ (by omega)
end
end Go.V.Try
