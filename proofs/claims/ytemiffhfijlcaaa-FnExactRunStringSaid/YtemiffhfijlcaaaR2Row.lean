import Derived.Test.YtemiffhfijlcaaaVRow
import Derived.Test.YtemiffhfijlcaaaR2LawStep
import Derived.Test.YtemiffhfijlcaaaRows
set_option linter.unusedSimpArgs false
set_option linter.unusedVariables false
set_option linter.unusedSectionVars false
/-! A string that came in. -/
namespace Go.V.Try
open Go Go.V Go.RowKit Go.ChangeShapes Go.WideShapes
set_option maxRecDepth 100000 in
theorem str_in {H : Type} {enc : TypeId × Value → H} {W : World} {base b0 : Nat} {sp : Nat → Bool} {held : Bool} {v : Value} {d : DataW H} {ps : List MemPlace} (hval : Value.okWide Go.Proofs.Try.prog W .any b0 47 v) (hd : DataW.Trod enc Go.Proofs.Try.prog W base sp held 47 v d ps) (ws : List Win) (hws : ∀ k ∈ ws, WinOk W (ρOf ws) k) :
    ∃ (ws' : List Win) (s : Str) (r1 r2 r3 r4 : Option Ref) (c1 c2 c3 c4 : Nat), ws <+: ws' ∧ (∀ k ∈ ws', WinOk W (ρOf ws') k) ∧ VR (ρOf ws') (strAV (.sl r1 s.pts.length c1 none) (.sl r2 s.bef.length c2 none) (.sl r3 s.fixed.length c3 none) (.sl r4 s.lens.length c4 none) s) v ∧
      StrV (hOf ws') (.sl r1 s.pts.length c1 none) (.sl r2 s.bef.length c2 none) (.sl r3 s.fixed.length c3 none) (.sl r4 s.lens.length c4 none) s ∧ (s.pts.length < 2 ^ 63 ∧ s.bef.length < 2 ^ 63 ∧ s.fixed.length < 2 ^ 63 ∧ s.lens.length < 2 ^ 63) := by
  simp only [Value.okWide, Go.Proofs.Try.underlying47] at hval
  obtain ⟨cs, rfl, hsz, ts, hts, _, hrow⟩ := hval
  have hts' : Go.Proofs.Try.prog.cellTypes Go.Proofs.Try.prog.depth 47 = some [44, 44, 25, 26, 27, 27, 27, 27, 2] := by kernel_rfl
  rw [hts'] at hts
  cases hts
  obtain ⟨fuel, hf⟩ := hd
  obtain ⟨hl, n, hfs⟩ := trod_fields Go.Proofs.Try.underlying47 hf
  have h9 : Go.Proofs.Try.prog.cellsOf 47 = 9 := by kernel_rfl
  rw [h9] at hl
  simp only [Value.cells] at hl hfs
  obtain ⟨l⟩ := cs
  simp only at hl hfs
  rcases l with _ | ⟨v0, l⟩
  · simp at hl
  rcases l with _ | ⟨v1, l⟩
  · simp at hl
  rcases l with _ | ⟨v2, l⟩
  · simp at hl
  rcases l with _ | ⟨v3, l⟩
  · simp at hl
  rcases l with _ | ⟨v4, l⟩
  · simp at hl
  rcases l with _ | ⟨v5, l⟩
  · simp at hl
  rcases l with _ | ⟨v6, l⟩
  · simp at hl
  rcases l with _ | ⟨v7, l⟩
  · simp at hl
  rcases l with _ | ⟨v8, l⟩
  · simp at hl
  rcases l with _ | ⟨_, _⟩
  rotate_left
  · simp at hl
  have k44 : Go.Proofs.Try.prog.cellsOf 44 = 1 := by kernel_rfl
  have k25 : Go.Proofs.Try.prog.cellsOf 25 = 1 := by kernel_rfl
  have k26 : Go.Proofs.Try.prog.cellsOf 26 = 1 := by kernel_rfl
  have k45 : Go.Proofs.Try.prog.cellsOf 45 = 3 := by kernel_rfl
  have k27 : Go.Proofs.Try.prog.cellsOf 27 = 1 := by kernel_rfl
  have k2 : Go.Proofs.Try.prog.cellsOf 2 = 1 := by kernel_rfl
  have k4 : Go.Proofs.Try.prog.cellsOf 4 = 1 := by kernel_rfl
  obtain ⟨y0, h0⟩ := hfs _ (List.mem_of_getElem? (i := 0) rfl)
  obtain ⟨y1, h1⟩ := hfs _ (List.mem_of_getElem? (i := 1) rfl)
  obtain ⟨y2, h2⟩ := hfs _ (List.mem_of_getElem? (i := 2) rfl)
  obtain ⟨y3, h3⟩ := hfs _ (List.mem_of_getElem? (i := 3) rfl)
  obtain ⟨y4, h4⟩ := hfs _ (List.mem_of_getElem? (i := 4) rfl)
  obtain ⟨y5, h5⟩ := hfs _ (List.mem_of_getElem? (i := 5) rfl)
  obtain ⟨y6, h6⟩ := hfs _ (List.mem_of_getElem? (i := 6) rfl)
  simp only [k44, k25, k26, k45, k27, k2, List.drop_zero, List.drop_succ_cons, List.take_succ_cons, List.take_zero] at h0 h1 h2 h3 h4 h5 h6
  have rv : Reads Go.Proofs.Try.prog W 45 cV := reads_vec Go.Proofs.Try.underlying45 k45 rfl rfl rfl Go.Proofs.Try.underlying27 Go.Proofs.Try.underlying27 Go.Proofs.Try.underlying27 k27 k27 k27
  have ok : ∀ (i : Nat) (u : TypeId) (v : Value), [44, 44, 25, 26, 27, 27, 27, 27, 2][i]? = some u → [v0, v1, v2, v3, v4, v5, v6, v7, v8][i]? = some v → i < 9 → Cell.okWide Go.Proofs.Try.prog W .any b0 u v := fun i u v hu hv hi => by
    obtain ⟨u', hu', hok⟩ := hrow i v (by simpa using hv)
    have : i % [44, 44, 25, 26, 27, 27, 27, 27, 2].length = i := Nat.mod_eq_of_lt hi
    rw [this, hu] at hu'
    cases hu'
    exact hok
  have s0 : Cell.ok Go.Proofs.Try.prog W .any b0 44 v0 := by have := ok 0 44 v0 rfl rfl (by decide); simpa only [Cell.okWide, Go.Proofs.Try.underlying44] using this
  have s1 : Cell.ok Go.Proofs.Try.prog W .any b0 44 v1 := by have := ok 1 44 v1 rfl rfl (by decide); simpa only [Cell.okWide, Go.Proofs.Try.underlying44] using this
  have s2 : Cell.ok Go.Proofs.Try.prog W .any b0 25 v2 := by have := ok 2 25 v2 rfl rfl (by decide); simpa only [Cell.okWide, Go.Proofs.Try.underlying25] using this
  have s3 : Cell.ok Go.Proofs.Try.prog W .any b0 26 v3 := by have := ok 3 26 v3 rfl rfl (by decide); simpa only [Cell.okWide, Go.Proofs.Try.underlying26] using this
  obtain ⟨ws0, xs0, r1, c1, p0, q0, e0, w0, n0⟩ := slice_in Go.Proofs.Try.underlying44 k45 rv s0 h0 ws hws
  obtain ⟨ws1, xs1, r2, c2, p1, q1, e1, w1, n1⟩ := slice_in Go.Proofs.Try.underlying44 k45 rv s1 h1 ws0 q0
  obtain ⟨ws2, xs2, r3, c3, p2, q2, e2, w2, n2⟩ := slice_in Go.Proofs.Try.underlying25 k4 (reads_bool Go.Proofs.Try.underlying4) s2 h2 ws1 q1
  obtain ⟨ws3, xs3, r4, c4, p3, q3, e3, w3, n3⟩ := slice_in Go.Proofs.Try.underlying26 k27 (reads_f32 Go.Proofs.Try.underlying27) s3 h3 ws2 q2
  obtain ⟨fall, hfall⟩ := rv _ _ _ _ _ _ _ h4
  obtain ⟨damp, hdamp⟩ := reads_f32 (w := W) Go.Proofs.Try.underlying27 _ _ _ _ _ _ _ h5
  obtain ⟨passes, hpasses⟩ := reads_i64 (w := W) Go.Proofs.Try.underlying2 _ _ _ _ _ _ _ h6
  obtain ⟨t1, ht1⟩ := hOf_app p1
  obtain ⟨t2, ht2⟩ := hOf_app p2
  obtain ⟨t3, ht3⟩ := hOf_app p3
  refine ⟨ws3, ⟨xs0, xs1, xs2, xs3, fall, damp, passes⟩, r1, r2, r3, r4, c1, c2, c3, c4, p0.trans (p1.trans (p2.trans p3)), q3, ?_, ⟨?_, ?_, ?_, w3⟩, n0, n1, n2, n3⟩
  · have a := hfall (ρOf ws3)
    have b := hdamp (ρOf ws3)
    have c := hpasses (ρOf ws3)
    have f0 := e0.mono (ρOf_le (p1.trans (p2.trans p3)))
    have f1 := e1.mono (ρOf_le (p2.trans p3))
    have f2 := e2.mono (ρOf_le p3)
    simp only [cV, cF, cI, VRs] at a b c
    simp only [strAV, VR, VRs]
    exact ⟨f0, f1, f2, e3, a.1, a.2.1, a.2.2.1, b.1, c.1, trivial⟩
  · rw [ht3, ht2, ht1]; exact ((w0.app t1).app t2).app t3
  · rw [ht3, ht2]; exact (w1.app t2).app t3
  · rw [ht3]; exact w2.app t3
end Go.V.Try
