import Derived.Test.YtemiffhfijlcaaaVOps
import Derived.Laws.AppendOwn
set_option linter.unusedSimpArgs false
set_option linter.unusedVariables false
set_option linter.unusedSectionVars false
/-! The operations that read and write memory. -/
namespace Go.V
open Go Go.RowKit

theorem get_splice {α : Type} (l vs : List α) (o i : Nat) (ho : o + vs.length ≤ l.length) :
    (l.take o ++ vs ++ l.drop (o + vs.length))[i]? = if i < o then l[i]? else if i < o + vs.length then vs[i - o]? else l[i]? := by
  have ht : (l.take o).length = o := by simp; omega
  by_cases h1 : i < o
  · rw [if_pos h1, List.append_assoc, List.getElem?_append_left (by omega), List.getElem?_take_of_lt h1]
  · rw [if_neg h1]
    by_cases h2 : i < o + vs.length
    · rw [if_pos h2, List.getElem?_append_left (by simp; omega), List.getElem?_append_right (by omega), ht]
    · rw [if_neg h2, List.getElem?_append_right (by simp; omega), List.getElem?_drop]
      congr 1
      simp
      omega

section ops
variable {P : Program} {W0 : World} {ρ : Rho} {h : H} {w : World}

theorem VRs.ones {vs : List AV} {xs : List Value} (hv : VRs ρ vs xs) (h1 : vs.all AV.one = true) : ∀ x ∈ xs, x.oneCell' = true := by
  intro x hx
  obtain ⟨i, hi, rfl⟩ := List.getElem_of_mem hx
  have hl := hv.length
  obtain ⟨y, hy, hr⟩ := hv.get i vs[i] (List.getElem?_eq_getElem (by omega))
  rw [List.getElem?_eq_getElem hi] at hy
  injection hy with hy; subst hy
  rw [hr.oneCell]
  exact List.all_eq_true.1 h1 _ (List.getElem_mem _)

/-- A store of some cells into one of the call's own blocks. -/
theorem wrn_run {r : Ref} {a : Addr} {vs : List AV} {xs : List Value} {h' : H} (S : Sim W0 ρ h w) (hr : RR ρ r a) (hv : VRs ρ vs xs) (he : wrn h r vs = some h') :
    ∃ w', (storeCells a xs).run P w = .ok () w' ∧ Sim W0 ρ h' w' ∧ Grow ρ h w ρ h' w' := by
  unfold wrn at he
  split at he
  · rename_i blk hb
    split at he
    · rename_i hc
      obtain ⟨ho, hlen, h1⟩ := hc
      simp only [Option.some.injEq] at he
      subst he
      obtain ⟨n, hn, rfl⟩ := hr
      have hxl : vs.length = xs.length := hv.length
      cases xs with
      | nil =>
        cases vs with
        | cons _ _ => simp at hxl
        | nil =>
          have e : h.set r.b ⟨splice blk.cells r.o [], .own⟩ = h := by
            have : (⟨splice blk.cells r.o [], .own⟩ : Blk) = blk := by
              cases blk; simp at ho; simp [splice, ho]
            rw [this]
            apply List.ext_getElem?
            intro i
            rw [List.getElem?_set]
            split
            · rename_i e; subst e; rw [if_pos (at_lt hb), hb]
            · rfl
          rw [e]
          exact ⟨w, rfl, S, Grow.refl _ _ _⟩
      | cons x0 xs0 =>
        obtain ⟨cells, ty, fr, h1', h2, h3, h4⟩ := S.live r.b n blk hn hb (by rw [ho]; decide)
        obtain ⟨_, rfl⟩ := h4 ho
        have hfit : n.sh + blk.cells.length ≤ cells.size := by
          have hpos : 0 < blk.cells.length := by simp at hxl; omega
          obtain ⟨x, hx, _⟩ := h3 (blk.cells.length - 1) (blk.cells[blk.cells.length - 1]'(by omega)) (List.getElem?_eq_getElem (by omega))
          have := (Array.getElem?_eq_some_iff.1 hx).1
          omega
        have hst := run_storeCells_at P n.c (n.sh + r.o) ty (x0 :: xs0) 0 cells w h1' (by omega) (hv.ones h1)
        refine ⟨_, hst, S.store hn hb ho ?_ ?_⟩
        · simp at hxl ⊢; omega
        · intro i v hi
          rw [splice, get_splice _ _ _ _ hlen] at hi
          have hg := get_splice cells.toList (x0 :: xs0) (n.sh + r.o) (n.sh + i) (by simp at hxl ⊢; omega)
          rw [List.getElem?_toArray, Nat.add_zero, hg]
          by_cases c1 : i < r.o
          · rw [if_pos c1] at hi
            rw [if_pos (by omega)]
            obtain ⟨x, hx, hr⟩ := h3 i v hi
            exact ⟨x, by simpa using hx, hr⟩
          · rw [if_neg c1] at hi
            rw [if_neg (by omega)]
            by_cases c2 : i < r.o + vs.length
            · rw [if_pos c2] at hi
              rw [if_pos (by omega)]
              obtain ⟨x, hx, hr⟩ := hv.get _ v hi
              refine ⟨x, by rw [show n.sh + i - (n.sh + r.o) = i - r.o by omega]; exact hx, hr, List.all_eq_true.1 h1 _ (List.mem_of_getElem? hi)⟩
            · rw [if_neg c2] at hi
              rw [if_neg (by omega)]
              obtain ⟨x, hx, hr⟩ := h3 i v hi
              exact ⟨x, by simpa using hx, hr⟩
    · cases he
  · cases he

/-- Some cells read. -/
theorem rdn_run {r : Ref} {a : Addr} {n : Nat} {l : List AV} (S : Sim W0 ρ h w) (hr : RR ρ r a) (he : rdn h r n = some l) :
    ∃ xs : List Value, (loadCells a n).run P w = .ok xs.toArray w ∧ xs.length = n ∧ VRs ρ l xs ∧ (∀ x ∈ xs, x.oneCell' = true) ∧ l.all AV.one = true := by
  unfold rdn at he
  split at he
  · rename_i blk hb
    split at he
    · cases he
    · rename_i hd
      split at he
      · rename_i hlen
        simp only [Option.some.injEq] at he
        subst he
        obtain ⟨xs, e1, e2, e3, e4, e5⟩ := S.reads hr hb hd n hlen
        have := run_loadCells_list (P := P) w a xs e3
        rw [e1] at this
        exact ⟨xs, this, e1, e2, e4, List.all_eq_true.2 e5⟩
      · cases he
  · cases he

theorem rd_run {r : Ref} {a : Addr} {v : AV} (S : Sim W0 ρ h w) (hr : RR ρ r a) (he : rd h r = some v) : ∃ x, (load a).run P w = .ok x w ∧ VR ρ v x := by
  unfold rd at he
  split at he
  · rename_i blk hb
    split at he
    · cases he
    · rename_i hd
      obtain ⟨x, hx, hv, _⟩ := S.read hr hb hd he
      exact ⟨x, by simp [hx], hv⟩
  · cases he

theorem isAggT_run {t : TypeId} {b : Bool} (ht : isAggT P t = some b) : (isAgg t).run P w = .ok b w := by
  unfold isAggT at ht
  split at ht
  · cases ht
  · rename_i fs hu; cases ht; simp [isAgg, run_underlying hu]
  · rename_i n e hu; cases ht; simp [isAgg, run_underlying hu]
  · rename_i d h1 h2 hu
    cases ht
    simp only [isAgg, Sem.run_bind, run_underlying hu, Result.andThen_ok]
    cases d <;> first | rfl | (exfalso; exact h1 _ rfl) | (exfalso; exact h2 _ _ rfl)
theorem sizeT_run {t : TypeId} {n : Nat} (ht : sizeT P t = some n) : (sizeOf t).run P w = .ok n w := by
  unfold sizeT at ht
  rw [Option.map_eq_some_iff] at ht
  obtain ⟨i, hi, rfl⟩ := ht
  simp [sizeOf, typeInfo, hi]

theorem toAV1_VR {v : Value} {a : AV} (ha : toAV1 v = some a) : VR ρ a v ∧ a.one = true := by
  cases v with
  | pointer p => cases p <;> simp [toAV1] at ha; subst ha; simp [VR, AV.one]
  | slice p n c => cases p <;> simp [toAV1] at ha; subst ha; simp [VR, AV.one]
  | _ => simp [toAV1] at ha <;> (subst ha; simp [VR, AV.one])
theorem toAVs_VRs : ∀ {vs : List Value} {as : List AV}, toAVs vs = some as → VRs ρ as vs ∧ as.all AV.one = true
  | [], as, h => by simp [toAVs] at h; subst h; simp [VRs]
  | v :: vs, as, h => by
    simp only [toAVs] at h
    split at h
    · cases h
    · rename_i a ha
      split at h
      · cases h
      · rename_i bs hb
        cases h
        obtain ⟨h1, h2⟩ := toAV1_VR (ρ := ρ) ha
        obtain ⟨h3, h4⟩ := toAVs_VRs hb
        simp [VRs, h1, h3, h2]
        simpa using h4
theorem toAV_VR {v : Value} {a : AV} (ha : toAV v = some a) : VR ρ a v := by
  unfold toAV at ha
  split at ha
  · rename_i cs
    rw [Option.map_eq_some_iff] at ha
    obtain ⟨l, hl, rfl⟩ := ha
    simp only [VR]
    exact (toAVs_VRs hl).1
  · cases ha; simp [VR, VRs]
  · exact (toAV1_VR ha).1
theorem zeroOf_run {t : TypeId} {z : List AV} (hz : zeroOf P t = some z) : ∃ v, (zeroValue t).run P w = .ok v w ∧ VRs ρ z v.cells.toList ∧ z.all AV.one = true ∧ ∃ i, P.info? t = some i ∧ i.zero = some v := by
  unfold zeroOf at hz
  split at hz
  · cases hz
  · rename_i i hi
    split at hz
    · cases hz
    · rename_i v hv
      obtain ⟨h1, h2⟩ := toAVs_VRs (ρ := ρ) hz
      exact ⟨v, by simp [zeroValue, typeInfo, hi, hv], h1, h2, i, hi, hv⟩

/-- A new block, by the model's own word. -/
theorem newRow_run (S : Sim W0 ρ h w) {l : List AV} {cs : Array Value} (t : TypeId) (hl : VRs ρ l cs.toList) (h1 : l.all AV.one = true) :
    ∃ a w' ρ', (newRow t cs).run P w = .ok a w' ∧ RR ρ' ⟨h.length, 0⟩ a ∧ Sim W0 ρ' (h ++ [⟨l, .own⟩]) w' ∧ Grow ρ h w ρ' (h ++ [⟨l, .own⟩]) w' := by
  have hc : ∀ (i : Nat) (v : AV), l[i]? = some v → ∃ x, cs[i]? = some x ∧ VR ρ v x ∧ v.one = true := fun i v hi => by
    obtain ⟨x, hx, hr⟩ := hl.get i v hi
    exact ⟨x, by simpa using hx, hr, List.all_eq_true.1 h1 _ (List.mem_of_getElem? hi)⟩
  obtain ⟨S', G'⟩ := S.alloc (ty := t) hc
  refine ⟨⟨w.heap.size, 0, none⟩, _, _, ?_, ⟨_, Rho.upd_same _ _ _, rfl⟩, S', G'⟩
  simp [newRow]

theorem fill_zipIdx (cells : Array Value) (off : Nat) : ∀ (vs : List Value) (j : Nat) (cs : Array Value), off + j + vs.length ≤ cs.size →
    ((vs.zipIdx j).foldl (fun cs (x : Value × Nat) => cs.setIfInBounds (off + x.2) x.1) cs).toList = cs.toList.take (off + j) ++ vs ++ cs.toList.drop (off + j + vs.length)
  | [], j, cs, _ => by simp
  | v :: vs, j, cs, hl => by
    simp only [List.zipIdx_cons, List.foldl_cons]
    rw [fill_zipIdx cells off vs (j + 1) _ (by simp at hl ⊢; omega)]
    have e := list_seg_step cs.toList (off + j) v vs (by simp at hl ⊢; omega)
    simpa [Array.toList_setIfInBounds, Nat.add_assoc] using e

theorem VRs.splice {l vs : List AV} {cs xs : List Value} (o : Nat) (hl : VRs ρ l cs) (hv : VRs ρ vs xs) : VRs ρ (splice l o vs) (cs.take o ++ xs ++ cs.drop (o + xs.length)) := by
  unfold V.splice
  rw [hv.length]
  exact ((hl.take o).append hv).append (hl.drop _)

/-- Parts laid into cells, as the model does it. -/
theorem lay_fill (place : Nat → Option (Nat × Nat)) : ∀ (ps : List (Nat × Nat)) (is : List Nat) (vs : List AV) (xs : List Value) (z l : List AV) (cs : Array Value),
    is.length = ps.length → (∀ (j i : Nat) (p : Nat × Nat), is[j]? = some i → ps[j]? = some p → place i = some p) → VRs ρ vs xs → VRs ρ z cs.toList → lay z ps vs = some l →
      ∃ cs', Instr.fill place cs (is.zip xs) = some cs' ∧ VRs ρ l cs'.toList
  | [], is, vs, xs, z, l, cs, hil, hp, hv, hz, he => by
    cases is with
    | cons _ _ => simp at hil
    | nil =>
      cases vs with
      | cons _ _ => simp [lay] at he
      | nil => simp [lay] at he; subst he; exact ⟨cs, by simp [Instr.fill], hz⟩
  | (o, n) :: ps, is, vs, xs, z, l, cs, hil, hp, hv, hz, he => by
    cases is with
    | nil => simp at hil
    | cons i is =>
      cases vs with
      | nil => simp [lay] at he
      | cons v vs =>
        obtain ⟨x, ys, rfl, hx, hys⟩ := hv.inv_cons
        simp only [lay] at he
        split at he
        · rename_i hc
          have hcl := (VR.cells hx).length
          have hzl := hz.length
          have hp0 : place i = some (o, n) := hp 0 i (o, n) rfl rfl
          simp only [List.zip_cons_cons, Instr.fill, hp0]
          have hxs : x.cells.size = n := by rw [← hc.1, hcl]; simp
          have hcsz : z.length = cs.size := by rw [hzl]; simp
          rw [if_neg (by simp [hxs]; omega)]
          have hf : x.cells.zipIdx.foldl (fun cs (y : Value × Nat) => cs.setIfInBounds (o + y.2) y.1) cs = (x.cells.toList.zipIdx.foldl (fun cs (y : Value × Nat) => cs.setIfInBounds (o + y.2) y.1) cs) := by
            rw [← Array.foldl_toList]; simp
          have hfz := fill_zipIdx cs o x.cells.toList 0 cs (by simp [hxs]; omega)
          exact lay_fill place ps is vs ys (V.splice z o v.cells) l _ (by simpa using hil) (fun j i p h1 h2 => hp (j + 1) i p (by simpa using h1) (by simpa using h2)) hys
            (by rw [hf, hfz]; simpa using hz.splice o (VR.cells hx)) he
        · cases he
end ops
end Go.V
