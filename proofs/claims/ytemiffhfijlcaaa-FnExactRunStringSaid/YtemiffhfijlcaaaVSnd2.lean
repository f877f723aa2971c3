import Derived.Test.YtemiffhfijlcaaaVSnd
import Derived.Laws.Tables
import Derived.Great.BuildSlice
set_option linter.unusedSimpArgs false
set_option linter.unusedVariables false
set_option linter.unusedSectionVars false
/-! Every operation of the small code, but calls: the whole table. -/
namespace Go.V
open Go Go.RowKit
section ops
variable {P : Program} {W0 : World} {ρ : Rho} {h : H} {w : World}

theorem partPlaces_get {places : List (Nat × Nat)} : ∀ {ps : List (Nat × Operand)} {l : List (Nat × Nat)}, partPlaces places ps = some l →
    (ps.map (·.1)).length = l.length ∧ ∀ (j i : Nat) (p : Nat × Nat), (ps.map (·.1))[j]? = some i → l[j]? = some p → places[i]? = some p
  | [], l, h => by simp [partPlaces] at h; subst h; simp
  | (i, x) :: ps, l, h => by
    simp only [partPlaces] at h
    split at h
    · cases h
    · rename_i p hp
      split at h
      · cases h
      · rename_i l' hl'
        cases h
        obtain ⟨h1, h2⟩ := partPlaces_get hl'
        refine ⟨by simpa using h1, fun j i' p' hj hp' => ?_⟩
        cases j with
        | zero => simp at hj hp'; subst hj; subst hp'; exact hp
        | succ j => exact h2 j i' p' (by simpa using hj) (by simpa using hp')

theorem parts_zip (parts : Array (Nat × Operand)) (σ : Operand → Value) : (parts.map fun (i, x) => (i, σ x)).toList = (parts.toList.map (·.1)).zip ((parts.toList.map (·.2)).map σ) := by
  rw [List.map_map, List.zip_map']
  simp

theorem zero_info {t : TypeId} {z : List AV} (hz : zeroOf P t = some z) : ∃ i v, P.info? t = some i ∧ i.zero = some v ∧ VRs ρ z v.cells.toList ∧ z.all AV.one = true := by
  obtain ⟨v, _, h1, h2, i, hi, hv⟩ := zeroOf_run (P := P) (ρ := ρ) (w := default) hz
  exact ⟨i, v, hi, hv, h1, h2⟩
theorem sizeT_info {t : TypeId} {n : Nat} (ht : sizeT P t = some n) : ∃ i, P.info? t = some i ∧ i.size = n := by
  unfold sizeT at ht
  rwa [Option.map_eq_some_iff] at ht

theorem build_run {t : TypeId} {parts : Array (Nat × Operand)} {z : List AV} {ps : List (Nat × Nat)} {σ : Operand → Value} {vs l : List AV} (hz : zeroOf P t = some z)
    (hp : (∃ fs places, P.underlying t = some (.struct fs) ∧ placesT P fs = some places ∧ partPlaces places parts.toList = some ps) ∨
      ∃ n e s, P.underlying t = some (.array n e) ∧ sizeT P e = some s ∧ ps = parts.toList.map fun x => (x.1 * s, s))
    (hv : VRs ρ vs ((parts.toList.map (·.2)).map σ)) (hl : lay z ps vs = some l) :
    ∃ R, (Instr.build t (parts.map fun (i, x) => (i, σ x))).run P w = .ok R w ∧ VR ρ (.agg l) R := by
  obtain ⟨it, zv, hit, hzv, hzr, _⟩ := zero_info (ρ := ρ) hz
  rcases hp with ⟨fs, places, hu, hpl, hpp⟩ | ⟨n, e, s, hu, hs, rfl⟩
  · obtain ⟨hlen, hget⟩ := partPlaces_get hpp
    obtain ⟨cs, hf, hr⟩ := lay_fill (ρ := ρ) (fun i => places.toArray[i]?) ps (parts.toList.map (·.1)) vs _ z l zv.cells hlen (fun j i p h1 h2 => by simpa using hget j i p h1 h2) hv hzr hl
    refine ⟨.agg cs, run_build w t _ cs ?_, by simpa [VR] using hr⟩
    unfold placesT at hpl
    rw [parts_zip]
    simp only [Program.built, hit, hu, hzv, hpl]
    exact hf
  · obtain ⟨ie, hie, rfl⟩ := sizeT_info hs
    obtain ⟨cs, hf, hr⟩ := lay_fill (ρ := ρ) (fun i => some (i * ie.size, ie.size)) (parts.toList.map fun x => (x.1 * ie.size, ie.size)) (parts.toList.map (·.1)) vs _ z l zv.cells (by simp) (fun j i p h1 h2 => by
      simp only [List.getElem?_map, Option.map_eq_some_iff] at h1 h2
      obtain ⟨a, ha, rfl⟩ := h1
      obtain ⟨b, hb, rfl⟩ := h2
      rw [ha] at hb; cases hb; rfl) hv hzr hl
    refine ⟨.agg cs, run_build w t _ cs ?_, by simpa [VR] using hr⟩
    rw [parts_zip]
    simp only [Program.built, hit, hu, hzv, hie]
    exact hf

theorem bs_run {t e : TypeId} {parts : Array (Nat × Operand)} {z : List AV} {n s : Nat} {σ : Operand → Value} {vs l : List AV} (hu : P.underlying t = some (.slice e)) (hs : sizeT P e = some s) (hz : zeroOf P e = some z) (hzl : z.length = s) (hpos : 0 < s) (hsmall : n * s ≤ 16777216)
    (hv : VRs ρ vs ((parts.toList.map (·.2)).map σ)) (hl : lay (zeros n z) (parts.toList.map fun x => (x.1 * s, s)) vs = some l) (h1 : l.all AV.one = true) (S : Sim W0 ρ h w) :
    ∃ R w' ρ', (Instr.buildSlice t n (parts.map fun (i, x) => (i, σ x))).run P w = .ok R w' ∧ VR ρ' (.sl (some ⟨h.length, 0⟩) n n none) R ∧ Sim W0 ρ' (h ++ [⟨l, .own⟩]) w' ∧ Grow ρ h w ρ' (h ++ [⟨l, .own⟩]) w' := by
  obtain ⟨it, zv, hit, hzv, hzr, _⟩ := zero_info (ρ := ρ) hz
  obtain ⟨ie, hie, rfl⟩ := sizeT_info hs
  rw [hit] at hie; cases hie
  have hzs : zv.cells.size = it.size := by rw [← hzl, hzr.length]; simp
  have hzz := zeros_VRs hzr n zv.cells rfl
  obtain ⟨cs, hf, hr⟩ := lay_fill (ρ := ρ) (fun i => some (i * it.size, it.size)) (parts.toList.map fun x => (x.1 * it.size, it.size)) (parts.toList.map (·.1)) vs _ (zeros n z) l _ (by simp) (fun j i p h1 h2 => by
      simp only [List.getElem?_map, Option.map_eq_some_iff] at h1 h2
      obtain ⟨a, ha, rfl⟩ := h1
      obtain ⟨b, hb, rfl⟩ := h2
      rw [ha] at hb; cases hb; rfl) hv hzz hl
  obtain ⟨a, w', ρ', ha, hra, S', G'⟩ := newRow_run (P := P) S e hr h1
  refine ⟨.slice (some a) n n, w', ρ', ?_, VR.mk_sl hra, S', G'⟩
  rw [← parts_zip] at hf
  rw [hzs] at hf
  have h24 : (2 : Nat) ^ 24 = 16777216 := by decide
  have hsm : ¬ n * it.size > 2 ^ 24 := by omega
  by_cases h0 : n * it.size = 0
  · have hf' : Instr.fill (fun i => some (i * it.size, it.size)) ((Array.range (n * it.size)).map (((#[] : Array Value))[· % (#[] : Array Value).size]!)) (parts.map fun (i, x) => (i, σ x)).toList = some cs := by
      rw [h0, show Array.range 0 = #[] from rfl] at hf ⊢
      simpa using hf
    simp only [Instr.buildSlice, Sem.run_bind, run_underlying hu, Result.andThen_ok, sizeT_run hs, if_neg hsm, if_pos h0, Sem.run_pure, hf', ha]
  · have hz' : (zeroValue e).run P w = .ok zv w := by simp [zeroValue, typeInfo, hit, hzv]
    rw [← hzs] at hf
    simp only [Instr.buildSlice, Sem.run_bind, run_underlying hu, Result.andThen_ok, sizeT_run hs, if_neg hsm, if_neg h0, hz', Sem.run_pure]
    rw [hzs] at hf
    simp only [hzs, hf, Sem.run_bind, ha, Result.andThen_ok, Sem.run_pure]

theorem bytes_run {ρ : Rho} : ∀ {l : List AV} {xs : List Value} {s : ByteArray}, VRs ρ l xs → bytesOf l = some s →
    ∃ ns : List Int, xs = ns.map (Value.int .u8) ∧ ∀ acc, ns.foldl (fun (r : ByteArray) n => r.push (UInt8.ofNat n.toNat)) acc = acc ++ s := by
  intro l
  induction l with
  | nil => intro xs s hv he; simp [bytesOf] at he; subst he; exact ⟨[], by rw [hv.inv_nil]; rfl, fun acc => by simp⟩
  | cons a l ih =>
    intro xs s hv he
    obtain ⟨x, ys, rfl, hx, hys⟩ := hv.inv_cons
    obtain ⟨n, s', rfl, hs', rfl⟩ : ∃ n s', a = .i .u8 n ∧ bytesOf l = some s' ∧ (⟨#[UInt8.ofNat n.toNat]⟩ ++ s' : ByteArray) = s := by
      cases a with
      | i k n => cases k <;> simp [bytesOf] at he; obtain ⟨s', h1, h2⟩ := he; exact ⟨n, s', rfl, h1, h2⟩
      | _ => simp [bytesOf] at he
    have := hx.inv_i; subst this
    obtain ⟨ns, rfl, hns⟩ := ih hys hs'
    refine ⟨n :: ns, rfl, fun acc => ?_⟩
    rw [List.foldl_cons, hns]
    apply ByteArray.ext
    simp [ByteArray.push]
end ops
end Go.V
