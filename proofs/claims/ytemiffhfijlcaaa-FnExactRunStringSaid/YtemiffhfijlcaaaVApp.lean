import Derived.Test.YtemiffhfijlcaaaVMem
set_option linter.unusedSimpArgs false
set_option linter.unusedVariables false
set_option linter.unusedSectionVars false
/-! 'append' and 'copy'. -/
namespace Go.V
open Go Go.RowKit
section ops
variable {P : Program} {W0 : World} {ρ : Rho} {h : H} {w : World}

theorem loadCells_zero (a : Addr) : (loadCells a 0).run P w = .ok #[] w := rfl

theorem srcCells_run {es n : Nat} {x : AV} {Y : Value} {new : List AV} (hx : VR ρ x Y) (he : srcCells h es x = some (n, new)) :
    (∃ b l c, Y = .slice b l c) ∧ (∀ w0, (Builtin.lenOf Y).run P w0 = .ok n w0) ∧ ∀ (w0 : World), Sim W0 ρ h w0 → ∃ xs : List Value, (Builtin.firstCells es n Y).run P w0 = .ok xs.toArray w0 ∧ xs.length = n * es ∧ VRs ρ new xs ∧ new.all AV.one = true := by
  unfold srcCells at he
  split at he
  · cases he
    have := hx.inv_sln; subst this
    exact ⟨⟨_, _, _, rfl⟩, fun _ => rfl, fun w0 _ => ⟨[], by simp [Builtin.firstCells], by simp, by simp [VRs], rfl⟩⟩
  · rename_i r m cap gr
    rw [Option.map_eq_some_iff] at he
    obtain ⟨l, hl, he⟩ := he
    cases he
    obtain ⟨a, c, rfl, hr0, _⟩ := hx.inv_sl
    obtain ⟨b, rfl, hr⟩ := hr0 r rfl
    refine ⟨⟨_, _, _, rfl⟩, fun _ => rfl, fun w0 S => ?_⟩
    obtain ⟨xs, e1, e2, e3, _, e5⟩ := rdn_run (P := P) S hr hl
    exact ⟨xs, by simpa [Builtin.firstCells] using e1, e2, e3, e5⟩
  · cases he

/-- The append that has to grow. -/
theorem append_grows {ats : Array TypeId} {t u ty e e' : TypeId} {i : TypeInfo} {zv : Value} (ha0 : ats[0]? = some t) (ha1 : ats[1]? = some u) (ht : P.underlying t = some (.slice e)) (hu : P.underlying u = some (.slice e')) (hi : P.info? e = some i) (hz : i.zero = some zv)
    {base : Option Addr} {len cap n : Nat} {Y : Value} (hY : ∃ b l c, Y = .slice b l c) (hn : ∀ w0, (Builtin.lenOf Y).run P w0 = .ok n w0) (hno : ¬ len + n ≤ cap)
    (hb : (len + n) * i.bytes ≤ 140737488355328) (h62 : len + n ≤ 4611686018427387904) {old new : Array Value}
    (hold : (Builtin.firstCells i.size len (.slice base len cap)).run P (w.drewN 1) = .ok old (w.drewN 1)) (hnew : (Builtin.firstCells i.size n Y).run P (w.drewN 1) = .ok new (w.drewN 1)) :
    ∃ c, len + n ≤ c ∧ (Builtin.append_ ats ty #[.slice base len cap, Y]).run P w =
      .ok (.slice (some ⟨w.heap.size, 0, none⟩) (len + n) c) ((w.drewN 1).alloc (.cells (old ++ new ++ Builtin.zeroCells zv.cells (c - (len + n))) e)) := by
  obtain ⟨b, l, c0, rfl⟩ := hY
  have hfit := growslice_fits (need := len + n) (old := cap) (bytes := i.bytes) (by omega) hb
  have hl : l = n := by have := hn w; simpa [Builtin.lenOf] using this
  subst hl
  have h63' : ¬ (9223372036854775807 < ((len : Int) + (l : Int))) := by omega
  have h48' : ¬ (281474976710656 < Builtin.nextslicecap (len + l) cap * i.bytes) := by omega
  refine ⟨grownCap w (len + l) cap e, grownCap_ge w _ _ _, ?_⟩
  have hd : w.drew = w.drewN 1 := rfl
  simp [Builtin.append_, ha0, ha1, run_underlying ht, run_underlying hu, sizeOf, typeInfo, zeroValue, hi, hz, Builtin.lenOf, hno, h63', h48', Question.forced, hd, hold, hnew, newRow, grownCap]

theorem VR.mk_sl {ρ : Rho} {r : Ref} {a : Addr} {len cap : Nat} (hr : RR ρ r a) : VR ρ (.sl (some r) len cap none) (.slice (some a) len cap) := by simp [VR, hr]
theorem VR.mk_slg {ρ : Rho} {r : Ref} {a : Addr} {len cap c es : Nat} {m : Ren} (hm : ρ r.b = some m) (ha : a = ⟨m.c, m.sh + r.o, none⟩) (h1 : len ≤ cap) (h2 : cap ≤ c) (h3 : a.off + c * es ≤ m.sz) : VR ρ (.sl (some r) len cap (some es)) (.slice (some a) len c) := by
  simp only [VR]
  exact ⟨⟨m, hm, ha⟩, trivial, h1, h2, fun n hn => by rw [hm] at hn; cases hn; exact h3⟩

theorem app_run {ats : Array TypeId} {t u ty e e' : TypeId} {i : TypeInfo} {z : List AV} (ha0 : ats[0]? = some t) (ha1 : ats[1]? = some u) (ht : P.underlying t = some (.slice e)) (hu : P.underlying u = some (.slice e')) (hi : P.info? e = some i) (hz : zeroOf P e = some z) (hzl : z.length = i.size)
    {r : Option Ref} {len cap n : Nat} {gr : Option Nat} {x v : AV} {X Y : Value} {new : List AV} {h' : H} (S : Sim W0 ρ h w) (hX : VR ρ (.sl r len cap gr) X) (hY : VR ρ x Y) (hs : srcCells h i.size x = some (n, new))
    (he : appV h i.size i.bytes r len cap gr n new = some (v, h')) :
    ∃ R w' ρ', (Builtin.append_ ats ty #[X, Y]).run P w = .ok R w' ∧ VR ρ' v R ∧ Sim W0 ρ' h' w' ∧ Grow ρ h w ρ' h' w' := by
  obtain ⟨hYs, hn, hnew⟩ := srcCells_run (P := P) (W0 := W0) hY hs
  obtain ⟨zv, _, hzv, hz1, i', hi', hiz⟩ := zeroOf_run (P := P) (ρ := ρ) (w := w) hz
  rw [hi] at hi'; cases hi'
  have hzs : zv.cells.size = i.size := by rw [← hzl, hzv.length]; simp
  have hYs' := hYs
  obtain ⟨yb, yl, yc, rfl⟩ := hYs'
  have hl : yl = n := by have := hn w; simpa [Builtin.lenOf] using this
  subst hl
  unfold appV at he
  split at he
  · cases he
  rename_i hes
  split at he
  · -- room
    rename_i hroom
    obtain ⟨base, c, rfl, hb, hb0⟩ := hX.inv_sl
    have hc : len + yl ≤ c := by
      cases r with
      | none => have := hX.inv_sln; injection this with _ _ e; omega
      | some q => cases gr with
        | none => obtain ⟨a, e, _⟩ := hX.inv_sle; injection e with _ _ e; omega
        | some es => obtain ⟨a, c', e, _, _, h3, _⟩ := hX.inv_slg; injection e with _ _ e; omega
    obtain ⟨xs, hf, hxl, hxv, hx1⟩ := hnew w S
    split at he
    · rename_i hn0
      subst hn0
      cases he
      have hx0 : xs = [] := List.eq_nil_of_length_eq_zero (by simpa using hxl)
      subst hx0
      refine ⟨_, w, ρ, ?_, hX, S, Grow.refl _ _ _⟩
      cases base <;> simp [Builtin.append_, ha0, ha1, run_underlying ht, run_underlying hu, sizeOf, typeInfo, hi, Builtin.lenOf, (show len ≤ c by omega), hf, storeCells]
    · rename_i hn0
      split at he
      · cases he
      · rename_i q
        split at he
        · cases he
        · rename_i h2 hw
          cases he
          obtain ⟨a, rfl, hra⟩ := hb q rfl
          obtain ⟨w', hst, S', G'⟩ := wrn_run (P := P) S (show RR ρ (q.add (len * i.size)) (a.add (len * i.size)) from hra.add _) hxv hw
          refine ⟨.slice (some a) (len + yl) c, w', ρ, ?_, ?_, S', G'⟩
          · simp [Builtin.append_, ha0, ha1, run_underlying ht, run_underlying hu, sizeOf, typeInfo, hi, Builtin.lenOf, hc, hf, hst]
          · cases gr with
            | none => obtain ⟨a', e, _⟩ := hX.inv_sle; injection e with _ _ e; subst e; exact VR.mk_sl hra
            | some es =>
              simp only [VR] at hX ⊢
              exact ⟨hra, trivial, hroom, hX.2.2.2.1, hX.2.2.2.2⟩
  · -- no room told
    rename_i hroom
    split at he
    · cases he
    rename_i hbnd
    have hb1 : (len + yl) * i.bytes ≤ 140737488355328 := by omega
    have hb2 : len + yl ≤ 4611686018427387904 := by omega
    have Sd := S.drewN 1
    obtain ⟨xs, hf, hxl, hxv, hx1⟩ := hnew (w.drewN 1) Sd
    have rest : ∀ c, (Builtin.zeroCells zv.cells c).size = c * i.size := fun c => by rw [size_zeroCells, hzs]
    -- the new block, once the old cells are known
    have grow : ∀ (base : Option Addr) (c0 : Nat) (olds : List AV) (os : List Value) (hh : H), Sim W0 ρ hh w → hh.length = h.length → ¬ len + yl ≤ c0 → VRs ρ olds os → olds.all AV.one = true → os.length = len * i.size →
        (Builtin.firstCells i.size len (.slice base len c0)).run P (w.drewN 1) = .ok os.toArray (w.drewN 1) →
        ∃ R w' ρ', (Builtin.append_ ats ty #[.slice base len c0, .slice yb yl yc]).run P w = .ok R w' ∧ VR ρ' (.sl (some ⟨h.length, 0⟩) (len + yl) (len + yl) (some i.size)) R ∧
          Sim W0 ρ' (hh ++ [⟨olds ++ new, .own⟩]) w' ∧ Grow ρ hh w ρ' (hh ++ [⟨olds ++ new, .own⟩]) w' := by
      intro base c0 olds os hh S1 hhl hno hov ho1 hol hold
      obtain ⟨c, hc, hrun⟩ := append_grows (P := P) (w := w) (ty := ty) ha0 ha1 ht hu hi hiz (base := base) hYs hn hno hb1 hb2 hold hf
      have hall := hov.append hxv
      have hcs : (os.toArray ++ xs.toArray ++ Builtin.zeroCells zv.cells (c - (len + yl))).size = c * i.size := by
        simp only [Array.size_append, List.size_toArray, rest, hol, hxl, ← Nat.add_mul]
        congr 1; omega
      obtain ⟨S2, G2⟩ := (S1.drewN 1).alloc (ty := e) (cs := os.toArray ++ xs.toArray ++ Builtin.zeroCells zv.cells (c - (len + yl))) (l := olds ++ new) fun i v hi => by
        obtain ⟨x, hx, hr⟩ := hall.get i v hi
        refine ⟨x, ?_, hr, ?_⟩
        · rw [Array.getElem?_append_left]
          · simpa using hx
          · have := (List.getElem?_eq_some_iff.1 hx).1
            simpa using this
        · have : (olds ++ new).all AV.one = true := by rw [List.all_append, ho1, hx1]; rfl
          exact List.all_eq_true.1 this _ (List.mem_of_getElem? hi)
      refine ⟨_, _, _, hrun, ?_, S2, (Grow.drewN ρ hh w 1).trans G2⟩
      rw [← hhl]
      refine VR.mk_slg (Rho.upd_same _ _ _) rfl (Nat.le_refl _) hc ?_
      simp only [hcs, Nat.zero_add, Nat.le_refl]
    split at he
    · -- nil
      split at he
      · rename_i h0
        obtain ⟨h0, _⟩ := h0
        subst h0
        cases he
        have := hX.inv_sln; subst this
        have := grow none cap [] [] h S rfl hroom (by simp [VRs]) rfl (by simp) (by simp [Builtin.firstCells])
        simpa using this
      · cases he
    · -- an exact one
      rename_i q
      split at he
      · cases he
      · rename_i olds hrd
        rw [if_pos hx1] at he
        cases he
        obtain ⟨a, rfl, hra⟩ := hX.inv_sle
        obtain ⟨os, e1, e2, e3, _, e5⟩ := rdn_run (P := P) Sd hra hrd
        exact grow (some a) cap olds os h S rfl hroom e3 e5 e2 (by simpa [Builtin.firstCells] using e1)
    · -- one that may have room
      rename_i es q
      split at he
      · cases he
      rename_i hese
      have hese : es = i.size := by omega
      subst hese
      split at he
      · cases he
      · rename_i blk hbk
        split at he
        · cases he
        · rename_i olds hrd
          split at he
          · rename_i hown
            obtain ⟨hown, _⟩ := hown
            cases he
            obtain ⟨a, c, rfl, hra, hlc, hcc, hsz⟩ := hX.inv_slg
            obtain ⟨os, e1, e2, e3, e4, e5⟩ := rdn_run (P := P) Sd hra hrd
            by_cases hin : len + yl ≤ c
            · obtain ⟨m, hm, rfl⟩ := hra
              have hsz' := hsz m hm
              obtain ⟨cells, ety, fr, h1', h2', h3', h4'⟩ := S.live q.b m blk hm hbk (by rw [hown]; decide)
              obtain ⟨_, rfl⟩ := h4' hown
              have hmul : (len + yl) * i.size ≤ c * i.size := Nat.mul_le_mul_right _ hin
              rw [Nat.add_mul] at hmul
              simp only at hsz'
              obtain ⟨xs', hf', hxl', hxv', _⟩ := hnew w S
              have hst := run_storeCells_at P m.c (m.sh + q.o + len * i.size) ety xs' 0 cells w h1' (by omega) (hxv'.ones hx1)
              obtain ⟨os', e1', e2', e3', e4', e5'⟩ := rdn_run (P := P) S ⟨m, hm, rfl⟩ hrd
              have hol := e3'.length
              have hnl := hxv'.length
              obtain ⟨S2, G2⟩ := S.turn hm hbk hown (cs := (cells.toList.take (m.sh + q.o + len * i.size + 0) ++ xs' ++ cells.toList.drop (m.sh + q.o + len * i.size + 0 + xs'.length)).toArray)
                (by simp; omega) (m.sh + q.o) (l := olds ++ new) [] fun j v hj => by
                rw [Nat.add_zero, List.getElem?_toArray, get_splice _ _ _ _ (by simp; omega)]
                by_cases c1 : j < olds.length
                · rw [List.getElem?_append_left c1] at hj
                  rw [if_pos (by omega)]
                  unfold rdn at hrd
                  rw [hbk] at hrd
                  simp only [hown] at hrd
                  rw [if_neg (by decide)] at hrd
                  split at hrd
                  · rename_i hlen
                    simp only [Option.some.injEq] at hrd
                    have hj' : blk.cells[q.o + j]? = some v := by
                      rw [← hrd, List.getElem?_take_of_lt (by omega), List.getElem?_drop] at hj
                      exact hj
                    obtain ⟨x, hx, hr⟩ := h3' _ v hj'
                    exact ⟨x, by rw [← Nat.add_assoc] at hx; simpa using hx, hr⟩
                  · cases hrd
                · rw [List.getElem?_append_right (by omega)] at hj
                  have hjl := (List.getElem?_eq_some_iff.1 hj).1
                  rw [if_neg (by omega), if_pos (by omega)]
                  obtain ⟨x, hx, hr⟩ := hxv'.get _ v hj
                  exact ⟨x, by rw [← hx]; congr 1; omega, hr, List.all_eq_true.1 hx1 _ (List.mem_of_getElem? hj)⟩
              refine ⟨.slice (some ⟨m.c, m.sh + q.o, none⟩) (len + yl) c, _, _, ?_, ?_, S2, G2⟩
              · simp [Builtin.append_, ha0, ha1, run_underlying ht, run_underlying hu, sizeOf, typeInfo, hi, Builtin.lenOf, hin, hf', Addr.add_lit, hst]
              · refine VR.mk_slg (Rho.upd_same _ _ _) rfl (Nat.le_refl _) hin ?_
                simp only; omega
            · obtain ⟨S1, G1⟩ := S.kill hbk hown []
              obtain ⟨R, w', ρ', g1, g2, g3, g4⟩ := grow (some a) c olds os _ S1 (by simp) hin e3 e5 e2 (by simpa [Builtin.firstCells] using e1)
              exact ⟨R, w', ρ', g1, g2, g3, G1.trans g4⟩
          · cases he
    · cases he

/-- 'copy'. -/
theorem cpy_run {ats : Array TypeId} {t ty e : TypeId} {es : Nat} (ha0 : ats[0]? = some t) (ht : P.underlying t = some (.slice e)) (hs : sizeT P e = some es)
    {r : Option Ref} {dl cap sn : Nat} {gr : Option Nat} {x : AV} {X Y : Value} {new : List AV} (S : Sim W0 ρ h w) (hX : VR ρ (.sl r dl cap gr) X) (hY : VR ρ x Y) (hsrc : srcCells h es x = some (sn, new)) {v : AV} {h' : H}
    (he : cpyV h es r dl sn new = some (v, h')) :
    ∃ R w', (Builtin.copy_ ats ty #[X, Y]).run P w = .ok R w' ∧ VR ρ v R ∧ Sim W0 ρ h' w' ∧ Grow ρ h w ρ h' w' := by
  obtain ⟨hYs, hn, hnew⟩ := srcCells_run (P := P) (W0 := W0) hY hsrc
  obtain ⟨yb, yl, yc, rfl⟩ := hYs
  have hl : yl = sn := by have := hn w; simpa [Builtin.lenOf] using this
  subst hl
  obtain ⟨base, c, rfl, hb, hb0⟩ := hX.inv_sl
  obtain ⟨i, hi, rfl⟩ : ∃ i, P.info? e = some i ∧ i.size = es := by unfold sizeT at hs; rwa [Option.map_eq_some_iff] at hs
  unfold cpyV at he
  by_cases h0 : dl = 0 ∨ yl = 0
  · rw [if_pos h0] at he
    cases he
    have hm : Nat.min yl dl = 0 := by show min yl dl = 0; omega
    refine ⟨goInt 0, w, ?_, by simp [goInt, VR], S, Grow.refl _ _ _⟩
    have hf : ∀ b, (Builtin.firstCells i.size 0 (.slice b yl yc)).run P w = .ok #[] w := fun b => by
      cases b <;> simp [Builtin.firstCells, loadCells_zero]
    cases base <;> simp [Builtin.copy_, ha0, run_underlying ht, sizeOf, typeInfo, hi, Builtin.lenOf, hm, hf, storeCells]
  · rw [if_neg h0] at he
    cases r with
    | none => simp at he
    | some q =>
      simp only at he
      split at he
      · rename_i h2 hw
        cases he
        obtain ⟨a, rfl, hra⟩ := hb q rfl
        obtain ⟨xs, hf, hxl, hxv, hx1⟩ := hnew w S
        have hle : min yl dl * i.size ≤ yl * i.size := Nat.mul_le_mul_right _ (Nat.min_le_left _ _)
        have hxt := hxv.take (min yl dl * i.size)
        obtain ⟨w', hst, S', G'⟩ := wrn_run (P := P) S hra hxt hw
        refine ⟨goInt (min yl dl : Nat), w', ?_, by simp [goInt, VR], S', G'⟩
        have hf2 : (Builtin.firstCells i.size (Nat.min yl dl) (.slice yb yl yc)).run P w = .ok (xs.take (min yl dl * i.size)).toArray w := by
          unfold srcCells at hsrc
          split at hsrc
          · cases hsrc; omega
          · rename_i r m cap' gr'
            rw [Option.map_eq_some_iff] at hsrc
            obtain ⟨l, hl, hsrc⟩ := hsrc
            cases hsrc
            obtain ⟨a', c', e', hr0, _⟩ := hY.inv_sl
            cases e'
            obtain ⟨b, rfl, hr⟩ := hr0 r rfl
            have hrd2 : rdn h r (min yl dl * i.size) = some (new.take (min yl dl * i.size)) := by
              unfold rdn at hl ⊢
              split at hl
              · split at hl
                · cases hl
                · rename_i hd
                  split at hl
                  · simp only [Option.some.injEq] at hl
                    subst hl
                    rw [if_neg hd, if_pos (by omega), List.take_take, Nat.min_eq_left hle]
                  · cases hl
              · cases hl
            obtain ⟨ys, e1, e2, e3, _⟩ := rdn_run (P := P) S hr hrd2
            obtain ⟨zs, z1, z2, z3, _⟩ := rdn_run (P := P) S hr hl
            have hzx : zs = xs := by
              have : (Builtin.firstCells i.size yl (.slice (some b) yl yc)).run P w = .ok zs.toArray w := by simpa [Builtin.firstCells] using z1
              rw [this] at hf
              simpa using hf
            subst hzx
            have hys : ys = zs.take (min yl dl * i.size) := by
              obtain ⟨blk, hbk, hd, hlen⟩ : ∃ blk, h[r.b]? = some blk ∧ blk.md ≠ .dead ∧ r.o + yl * i.size ≤ blk.cells.length := by
                unfold rdn at hl
                split at hl
                · rename_i blk hbk
                  split at hl
                  · cases hl
                  · split at hl
                    · exact ⟨blk, hbk, by assumption, by assumption⟩
                    · cases hl
                · cases hl
              obtain ⟨us, u1, u2, u3, u4, u5⟩ := S.reads hr hbk hd (yl * i.size) hlen
              have k1 := run_loadCells_list (P := P) w b us u3
              rw [u1, z1] at k1
              have k1 : zs = us := by simpa using k1
              have k2 := run_loadCells_list (P := P) w b (us.take (min yl dl * i.size)) fun j v hj => u3 j v (by rw [List.getElem?_take] at hj; split at hj <;> simp_all)
              rw [show (us.take (min yl dl * i.size)).length = min yl dl * i.size by rw [List.length_take]; omega, e1] at k2
              have k2 : ys = us.take (min yl dl * i.size) := by simpa using k2
              rw [k1]; exact k2
            rw [← hys]
            show (loadCells b (min yl dl * i.size)).run P w = _
            exact e1
          · cases hsrc
        simp [Builtin.copy_, ha0, run_underlying ht, sizeOf, typeInfo, hi, Builtin.lenOf, hf2, hst, goInt]
      · cases he
end ops
end Go.V
