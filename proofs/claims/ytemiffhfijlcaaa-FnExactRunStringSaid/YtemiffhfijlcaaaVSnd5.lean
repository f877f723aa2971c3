import Derived.Test.YtemiffhfijlcaaaVSnd4
import Derived.Laws.BytesString
set_option linter.unusedSimpArgs false
set_option linter.unusedVariables false
set_option linter.unusedSectionVars false
/-! The table of operations: all of it. -/
namespace Go.V
open Go Go.RowKit
section ops
variable {P : Program} {W0 : World} {ρ : Rho} {h : H} {w : World}

theorem pure_sound {k : K} {vs : List AV} {v : AV} {h' : H} (hk : ∀ h, evalK k vs h = match evalP k vs with
    | some v => some (v, h)
    | none => none) (he : evalK k vs h = some (v, h')) (S : Sim W0 ρ h w) {s : Sem Next} {t : Sem Value} (hs : s = (do pure (.value (← t)))) (ht : evalP k vs = some v → ∃ x j, t.run P w = .ok x (w.drewN j) ∧ VR ρ v x) : Out P W0 ρ h w v h' s := by
  obtain ⟨hp, rfl⟩ := evalK_P hk he
  rw [hs]
  exact Out.of S (ht hp)

theorem part_run {t : TypeId} {cs : Array Value} {off n : Nat} {l : List AV} {v : AV} (hl : VRs ρ l cs.toList)
    (hh : (isAggT P t = some true ∧ sizeT P t = some n ∧ off + n ≤ l.length ∧ v = .agg ((l.drop off).take n)) ∨ (isAggT P t = some false ∧ l[off]? = some v)) :
    ∃ x, (part t cs off).run P w = .ok x w ∧ VR ρ v x := by
  rcases hh with ⟨ha, hs, hle, rfl⟩ | ⟨ha, hv⟩
  · refine ⟨.agg (cs.extract off (off + n)), by simp [part, isAggT_run ha, sizeT_run hs], ?_⟩
    simp only [VR, Array.toList_extract, List.extract]
    rw [show off + n - off = n by omega]
    exact (hl.drop off).take n
  · obtain ⟨x, hx, hr⟩ := hl.get off v hv
    have hx' : cs[off]? = some x := by simpa using hx
    exact ⟨x, by simp only [part, Sem.run_bind, isAggT_run ha, Result.andThen_ok, if_false, Bool.false_eq_true, hx', Sem.run_pure], hr⟩

theorem wrap64 {n : Int} (h0 : 0 ≤ n) (h1 : n ≤ 281474976710656) : IntKind.i64.wrap n = n := by
  simp [IntKind.wrap, IntKind.bits, IntKind.signed]
  omega

theorem mk_run {o : Oper} {σ : Operand → Value} {t e : TypeId} {l c : Operand} {i : TypeInfo} {z : List AV} {k1 k2 : IntKind} {n1 n2 : Int} (ho : o.op = .makeSlice t l c) (hu : P.underlying t = some (.slice e)) (hi : P.info? e = some i) (hz : zeroOf P e = some z)
    (hzl : z.length = i.size) (hpos : 0 < i.size) (hX : σ l = .int k1 n1) (hY : σ c = .int k2 n2) (h0 : 0 ≤ n1) (h1 : n1 ≤ n2) (h2 : n2 * i.bytes ≤ 281474976710656) (h3 : n2 ≤ 281474976710656) (S : Sim W0 ρ h w) :
    Out P W0 ρ h w (.sl (some ⟨h.length, 0⟩) n1.toNat n2.toNat none) (h ++ [⟨zeros n2.toNat z, .own⟩]) (execOp σ o) := by
  have e0 : execOp σ o = (do pure (.value (← Instr.makeSlice t (.int k1 n1) (.int k2 n2)))) := by simp only [execOp, ho, hX, hY]
  rw [e0]
  obtain ⟨zv, hzr, hzv, hz1, i', hi', hiz⟩ := zeroOf_run (P := P) (ρ := ρ) (w := w) hz
  rw [hi] at hi'; cases hi'
  have hzs : zv.cells.size = i.size := by rw [← hzl, hzv.length]; simp
  have hzz := zeros_VRs hzv n2.toNat zv.cells rfl
  obtain ⟨a, w', ρ', ha, hra, S', G'⟩ := newRow_run (P := P) S e hzz (zeros_one hz1 _)
  refine Out.ofW ⟨.slice (some a) n1.toNat n2.toNat, w', ρ', ?_, VR.mk_sl hra, S', G'⟩
  have w1 := wrap64 h0 (by omega)
  have w2 := wrap64 (n := n2) (by omega) h3
  have e48 : ((2 : Int) ^ 48) = 281474976710656 := by decide
  have hc1 : (decide (n2 < 0) || decide ((i.bytes : Int) * n2 > 281474976710656)) = false := by
    simp only [Bool.or_eq_false_iff, decide_eq_false_iff_not]
    refine ⟨by omega, ?_⟩
    rw [Int.mul_comm]; omega
  have hc2 : ¬ n1 < 0 := by omega
  have hc3 : ¬ n1 > n2 := by omega
  simp only [Instr.makeSlice, Sem.run_bind, run_underlying hu, Result.andThen_ok, asInt, asIntOf, Sem.run_pure, typeInfo, run_program, hi, w1, w2, e48, hc1, hc2, hc3, decide_false, Bool.or_false, Bool.false_eq_true, if_false, run_askRoom, sizeOf]
  rw [hzs] at ha
  by_cases hn : n2.toNat * i.size = 0
  · rw [hn] at ha ⊢
    simp only [if_true]
    have : ((Array.range 0).map (fun i_1 => zv.cells[i_1 % i.size]!)) = ((Array.range 0).map (fun i_1 => (#[] : Array Value)[i_1 % (#[] : Array Value).size]!)) := by
      rw [show Array.range 0 = #[] from rfl]; simp
    rw [this] at ha
    simp only [Sem.run_bind, ha, Result.andThen_ok, Sem.run_pure]
  · simp only [hn, if_false, hzr, Sem.run_bind, Result.andThen_ok, hzs, ha, Sem.run_pure]

theorem compK_sound {op : Op} {k : K} {xs : List Operand} (hc : compK P op = some (k, xs)) (hk : k.isCall = false) {o : Oper} (ho : o.op = op) {σ : Operand → Value} {vs : List AV} {v : AV} {h' : H}
    (hv : VRs ρ vs (xs.map σ)) (S : Sim W0 ρ h w) (he : evalK k vs h = some (v, h')) : Out P W0 ρ h w v h' (execOp σ o) := by
  cases op <;> simp only [compK] at hc <;> try (cases hc; done)
  case move x =>
    cases hc
    obtain ⟨u, rfl, hX⟩ := hv.one
    simp [evalK, evalP] at he
    obtain ⟨rfl, rfl⟩ := he
    exact Out.stay S (x := σ x) (by simp [execOp, ho]) hX
  case assign x =>
    cases hc
    obtain ⟨u, rfl, hX⟩ := hv.one
    simp [evalK, evalP] at he
    obtain ⟨rfl, rfl⟩ := he
    exact Out.stay S (x := σ x) (by simp [execOp, ho]) hX
  case pick c a b =>
    cases hc
    obtain ⟨u1, u2, u3, rfl, h1, h2, h3⟩ := hv.three
    match u1, h1, he with
    | .b cc, h1, he =>
      simp [evalK, evalP] at he
      obtain ⟨rfl, rfl⟩ := he
      have e1 := h1.inv_b
      refine Out.stay S (x := if cc then σ a else σ b) (by simp [execOp, ho, e1, asBool]) ?_
      cases cc <;> simpa
  case alloc t =>
    split at hc
    · rename_i z hz
      cases hc
      have := hv.inv_nil'
      subst this
      simp only [evalK, Option.some.injEq, Prod.mk.injEq] at he
      obtain ⟨rfl, rfl⟩ := he
      obtain ⟨zv, hzr, hzv, hz1, _⟩ := zeroOf_run (P := P) (ρ := ρ) (w := w) hz
      obtain ⟨a, w', ρ', ha, hra, S', G'⟩ := newRow_run (P := P) S t hzv hz1
      refine ⟨.pointer (some a), w', ρ', .inl ?_, VR.mk_p hra, S', G'⟩
      simp [execOp, ho, Instr.alloc, hzr, newVar, ha]
    · cases hc
  case box t x =>
    cases hc
    obtain ⟨u, rfl, hX⟩ := hv.one
    simp only [evalK] at he
    split at he
    · rename_i h1
      cases he
      obtain ⟨a, w', ρ', ha, hra, S', G'⟩ := newRow_run (P := P) S t hX.cells h1
      refine ⟨.pointer (some a), w', ρ', .inl ?_, VR.mk_p hra, S', G'⟩
      simp [execOp, ho, Instr.box, newVar, ha]
    · cases he
  case build t parts =>
    split at hc
    · cases hc
    · rename_i z hz
      split at hc
      · rename_i fs hu
        split at hc
        · rename_i places hpl
          split at hc
          · rename_i ps hps
            cases hc
            refine pure_sound (fun _ => rfl) he S (t := Instr.build t (parts.map fun (i, x) => (i, σ x))) (by simp only [execOp, ho]) fun hp => ?_
            simp only [evalP, Option.map_eq_some_iff] at hp
            obtain ⟨l, hl, rfl⟩ := hp
            obtain ⟨R, h1, h2⟩ := build_run (P := P) (w := w) hz (.inl ⟨fs, places, hu, hpl, hps⟩) hv hl
            exact ⟨R, 0, h1, h2⟩
          · cases hc
        · cases hc
      · rename_i n e hu
        split at hc
        · rename_i s hs
          cases hc
          refine pure_sound (fun _ => rfl) he S (t := Instr.build t (parts.map fun (i, x) => (i, σ x))) (by simp only [execOp, ho]) fun hp => ?_
          simp only [evalP, Option.map_eq_some_iff] at hp
          obtain ⟨l, hl, rfl⟩ := hp
          obtain ⟨R, h1, h2⟩ := build_run (P := P) (w := w) hz (.inr ⟨n, e, s, hu, hs, rfl⟩) hv hl
          exact ⟨R, 0, h1, h2⟩
        · cases hc
      · cases hc
  case buildSlice t n parts =>
    split at hc
    · rename_i e hu
      split at hc
      · rename_i s z hs hz
        split at hc
        · rename_i hcond
          cases hc
          simp only [evalK] at he
          split at he
          · cases he
          · rename_i l hl
            split at he
            · rename_i h1
              cases he
              have := bs_run (P := P) hu hs hz hcond.1 hcond.2.1 hcond.2.2 hv hl h1 S
              have e : execOp σ o = (do pure (.value (← Instr.buildSlice t n (parts.map fun (i, x) => (i, σ x))))) := by simp only [execOp, ho]
              rw [e]
              exact Out.ofW this
            · cases he
        · cases hc
      · cases hc
    · cases hc
  case load t a =>
    split at hc
    · rename_i ha
      split at hc
      · rename_i n hs
        cases hc
        obtain ⟨u, rfl, hX⟩ := hv.one
        match u, hX, he with
        | .p (some r), hX, he =>
          simp only [evalK] at he
          split at he
          · rename_i l hl
            cases he
            have e : execOp σ o = (do pure (.value (← Instr.loadAt t (σ a)))) := by simp only [execOp, ho]
            rw [e]
            exact Out.ofP S (ld_run S hX (.inl ⟨ha, hs, l, hl, rfl⟩))
          · cases he
      · cases hc
    · rename_i ha
      cases hc
      obtain ⟨u, rfl, hX⟩ := hv.one
      match u, hX, he with
      | .p (some r), hX, he =>
        simp only [evalK] at he
        split at he
        · rename_i x hx
          cases he
          have e : execOp σ o = (do pure (.value (← Instr.loadAt t (σ a)))) := by simp only [execOp, ho]
          rw [e]
          exact Out.ofP S (ld_run (n := 0) S hX (.inr ⟨ha, hx⟩))
        · cases he
    · cases hc
  case store t a x =>
    split at hc
    · rename_i n hs
      cases hc
      obtain ⟨u1, u2, rfl, hX, hY⟩ := hv.two
      match u1, hX, he with
      | .p (some r), hX, he =>
        simp only [evalK] at he
        split at he
        · rename_i hn
          split at he
          · rename_i h2 hw
            cases he
            obtain ⟨w', h1, S', G'⟩ := st_run (P := P) S hX hY hs hn hw
            exact ⟨undef, w', ρ, .inr ⟨by simp [execOp, ho, h1], rfl⟩, by simp [undef, VR, VRs], S', G'⟩
          · cases he
        · cases he
    · cases hc
  case nilCheck x =>
    cases hc
    obtain ⟨u, rfl, hX⟩ := hv.one
    match u, hX, he with
    | .p (some r), hX, he =>
      simp [evalK, evalP] at he
      obtain ⟨rfl, rfl⟩ := he
      obtain ⟨a, e, hr⟩ := hX.inv_p
      exact Out.stay S (x := .pointer (some a)) (by simp [execOp, ho, e]) (VR.mk_p hr)
    | .fn f caps, hX, he =>
      simp [evalK, evalP] at he
      obtain ⟨rfl, rfl⟩ := he
      obtain ⟨cs, e, hr⟩ := hX.inv_fn
      exact Out.stay S (x := .func (.func f) #[] cs) (by simp [execOp, ho, e]) (by rw [← e]; exact hX)
    | .ifc t u, hX, he =>
      simp [evalK, evalP] at he
      obtain ⟨rfl, rfl⟩ := he
      obtain ⟨x', e, hr⟩ := hX.inv_ifc
      exact Out.stay S (x := .iface t x') (by simp [execOp, ho, e]) (by rw [← e]; exact hX)
  case binOp op t x y yt =>
    split at hc
    · split at hc
      · cases hc; exact eqB_sound (ne := false) ho (by assumption) S hv he
      · split at hc
        · rename_i n hs
          split at hc
          · cases hc
          · cases hc; exact eqP_sound (ne := false) ho (by assumption) hs (by assumption) S hv he
        · cases hc
      · cases hc; exact eqSl_sound (ne := false) ho (by assumption) S hv he
      · cases hc; exact eqFn_sound (ne := false) ho (by assumption) S hv he
      · cases hc; exact bin_sound ho S hv he
    · split at hc
      · cases hc; exact eqB_sound (ne := true) ho (by assumption) S hv he
      · split at hc
        · rename_i n hs
          split at hc
          · cases hc
          · cases hc; exact eqP_sound (ne := true) ho (by assumption) hs (by assumption) S hv he
        · cases hc
      · cases hc; exact eqSl_sound (ne := true) ho (by assumption) S hv he
      · cases hc; exact eqFn_sound (ne := true) ho (by assumption) S hv he
      · cases hc; exact bin_sound ho S hv he
    · cases hc; exact bin_sound ho S hv he
  case unOp op t x =>
    split at hc
    · cases hc
      obtain ⟨u, rfl, hX⟩ := hv.one
      match u, hX, he with
      | .b p, hX, he =>
        simp [evalK, evalP] at he
        obtain ⟨rfl, rfl⟩ := he
        exact Out.stay S (x := .bool (!p)) (by simp [execOp, ho, hX.inv_b, Op.unary]) (VR.mk_b _)
    · cases hc
      obtain ⟨u, rfl, hX⟩ := hv.one
      match u, hX, he with
      | .i kk n, hX, he =>
        simp [evalK, evalP] at he
        obtain ⟨rfl, rfl⟩ := he
        exact Out.stay S (x := .int kk (kk.wrap (-n))) (by simp [execOp, ho, hX.inv_i, Op.unary, Op.intArith]) (VR.mk_i _ _)
      | .f kk n, hX, he =>
        simp [evalK, evalP] at he
        obtain ⟨rfl, rfl⟩ := he
        obtain ⟨y, e, rfl⟩ := hX.inv_f
        exact Out.stay S (x := .float kk (Op.negFloat kk y)) (by simp [execOp, ho, e, Op.unary]) (by rw [← cn_negFloat]; exact VR.mk_f _ _)
    · cases hc
  case convert s d x =>
    have e : execOp σ o = (do pure (.value (← convert s d (σ x)))) := by simp only [execOp, ho]
    rw [e]
    split at hc
    · rename_i sd kk hs hd
      cases hc
      obtain ⟨u, rfl, hX⟩ := hv.one
      exact pure_sound (fun _ => rfl) he S rfl fun hp => cIntV_run hs hd hX hp
    · rename_i sd kk hs hd
      cases hc
      obtain ⟨u, rfl, hX⟩ := hv.one
      exact pure_sound (fun _ => rfl) he S rfl fun hp => cFltV_run hs hd hX hp
    · rename_i e' hs hd
      split at hc
      · rename_i hu8
        cases hc
        obtain ⟨u, rfl, hX⟩ := hv.one
        match u, hX, he with
        | .sl none a b c, hX, he =>
          simp [evalK] at he
          obtain ⟨rfl, rfl⟩ := he
          have e1 := hX.inv_sln
          refine Out.ofP S ⟨.string ByteArray.empty, ?_, VR.mk_s _⟩
          rw [e1]
          simp [convert, run_underlying hs, run_underlying hd, run_underlying hu8, Conv.bytesToString]
        | .sl (some r) n b c, hX, he =>
          simp only [evalK] at he
          split at he
          · cases he
          · rename_i l hl
            split at he
            · cases he
            · rename_i s' hs'
              cases he
              obtain ⟨a, c', e1, h1, _⟩ := hX.inv_sl
              obtain ⟨b', rfl, hr⟩ := h1 r rfl
              obtain ⟨xs, x1, x2, x3, _⟩ := rdn_run (P := P) S hr hl
              obtain ⟨ns, rfl, hns⟩ := bytes_run x3 hs'
              refine Out.ofP S ⟨.string s', ?_, VR.mk_s _⟩
              rw [e1]
              simp only [convert, Sem.run_bind, run_underlying hs, run_underlying hd, run_underlying hu8, Result.andThen_ok]
              rw [run_bytesToString w b' n c' ns x1, hns]
              simp
      · cases hc
    · rename_i sd hs hd hns
      cases hc
      obtain ⟨u, rfl, hX⟩ := hv.one
      match u, hX, he with
      | .s q, hX, he =>
        simp [evalK, evalP] at he
        obtain ⟨rfl, rfl⟩ := he
        refine Out.ofP S ⟨.string q, ?_, VR.mk_s _⟩
        rw [hX.inv_s]
        simp [convert, run_underlying hd, run_underlying (by assumption)]
    · cases hc
  case makeInterface t x =>
    split at hc
    · cases hc
    · rename_i d hnd hu
      cases hc
      obtain ⟨u, rfl, hX⟩ := hv.one
      simp [evalK, evalP] at he
      obtain ⟨rfl, rfl⟩ := he
      refine Out.stay S (x := .iface t (σ x)) ?_ (by simpa [VR] using hX)
      have : (Instr.makeInterface t (σ x)).run P w = .ok (.iface t (σ x)) w := by
        simp only [Instr.makeInterface, Sem.run_bind, run_underlying hu, Result.andThen_ok]
        rfl
      simp [execOp, ho, this]
    · cases hc
  case makeFunc fn first captured =>
    split at hc
    · rename_i f
      cases hc
      simp only [evalK, evalP, Option.some.injEq, Prod.mk.injEq] at he
      obtain ⟨rfl, rfl⟩ := he
      refine Out.stay S (x := .func (.func f) #[] (captured.map σ)) (by simp [execOp, ho, Instr.makeFunc]) ?_
      simp only [VR, Array.toList_map]
      exact ⟨trivial, trivial, hv⟩
    · cases hc
  case makeSlice t l c =>
    split at hc
    · rename_i e hu
      split at hc
      · rename_i i z hi hz
        split at hc
        · rename_i hcond
          cases hc
          obtain ⟨u1, u2, rfl, hX, hY⟩ := hv.two
          match u1, u2, hX, hY, he with
          | .i k1 n1, .i k2 n2, hX, hY, he =>
            simp only [evalK] at he
            split at he
            · rename_i hb
              cases he
              exact mk_run ho hu hi hz hcond.1 hcond.2 hX.inv_i hY.inv_i hb.1 hb.2.1 hb.2.2.1 hb.2.2.2 S
            · cases he
        · cases hc
      · cases hc
    · cases hc
  case slice t x lo hi mx =>
    have e : execOp σ o = (do pure (.value (← Instr.sliceAt t (σ x) (lo.map σ) (hi.map σ) (mx.map σ)))) := by simp only [execOp, ho]
    rw [e]
    split at hc
    · rename_i hu
      split at hc
      · cases hc
        cases vs with
        | nil => simp [VRs] at hv
        | cons u vs =>
          obtain ⟨X, ys, e', hX, hys⟩ := hv.inv_cons
          simp only [List.map_cons, List.cons.injEq] at e'
          obtain ⟨rfl, rfl⟩ := e'
          match u, hX, he with
          | .s q, hX, he =>
            obtain ⟨hp, rfl⟩ := evalK_P (fun _ => rfl) he
            simp only [evalP] at hp
            split at hp
            · rename_i l n m hb
              cases hp
              have hb' : bnds q.size q.size lo.isSome hi.isSome (none : Option Operand).isSome vs = some (l, n, m) := hb
              obtain ⟨h1, _⟩ := bnds_run (P := P) (w := w) (b := false) (Nat.le_refl q.size) (mx := none) (σ := σ) (ρ := ρ) (by simpa using hys) hb'
              refine Out.ofP S ⟨.string (q.extract l n), ?_, VR.mk_s _⟩
              rw [hX.inv_s]
              simp only [Option.map_none] at h1
              simp [Instr.sliceAt, Instr.slice, run_underlying hu, h1]
            · cases hp
      · cases hc
    · rename_i e' hu
      split at hc
      · rename_i s hs
        cases hc
        cases vs with
        | nil => simp [VRs] at hv
        | cons u vs =>
          obtain ⟨X, ys, e', hX, hys⟩ := hv.inv_cons
          simp only [List.map_cons, List.cons.injEq] at e'
          obtain ⟨rfl, rfl⟩ := e'
          match u, hX, he with
          | .sl r len cap gr, hX, he =>
            obtain ⟨hp, rfl⟩ := evalK_P (fun _ => rfl) he
            obtain ⟨R, h1, h2⟩ := sls_run (P := P) (w := w) hu hs hX hys hp
            exact Out.ofP S ⟨R, h1, h2⟩
      · cases hc
    · cases hc
  case fieldAddr s x f =>
    split at hc
    · rename_i fs hu
      split at hc
      · rename_i fd hf
        split at hc
        · rename_i n hs
          split at hc
          · cases hc
          · rename_i hn
            cases hc
            obtain ⟨u, rfl, hX⟩ := hv.one
            match u, hX, he with
            | .p (some r), hX, he =>
              simp [evalK, evalP] at he
              obtain ⟨rfl, rfl⟩ := he
              obtain ⟨a, e, hr⟩ := hX.inv_p
              refine Out.stay S (x := .pointer (some (a.add fd.offset))) ?_ (VR.mk_p (hr.add _))
              simp [execOp, ho, Instr.fieldAt, run_underlying hu, hf, e, Instr.sureAddr, fieldPlace, sizeT_run hs, hn]
        · cases hc
      · cases hc
    · cases hc
  case field t x f =>
    split at hc
    · rename_i fs hu
      split at hc
      · rename_i fd hf
        split at hc
        · rename_i ha
          split at hc
          · rename_i n hs
            cases hc
            obtain ⟨u, rfl, hX⟩ := hv.one
            match u, hX, he with
            | .agg cs, hX, he =>
              obtain ⟨hp, rfl⟩ := evalK_P (fun _ => rfl) he
              simp only [evalP] at hp
              split at hp
              · rename_i hle
                cases hp
                obtain ⟨ys, e, hl⟩ := hX.inv_agg
                obtain ⟨x', h1, h2⟩ := part_run (P := P) (w := w) (t := fd.type) hl (.inl ⟨ha, hs, hle, rfl⟩)
                refine Out.stay S (x := x') ?_ h2
                simp [execOp, ho, Instr.field, run_underlying hu, hf, e, asAgg, h1]
              · cases hp
          · cases hc
        · rename_i ha
          cases hc
          obtain ⟨u, rfl, hX⟩ := hv.one
          match u, hX, he with
          | .agg cs, hX, he =>
            obtain ⟨hp, rfl⟩ := evalK_P (fun _ => rfl) he
            simp only [evalP] at hp
            obtain ⟨ys, e, hl⟩ := hX.inv_agg
            obtain ⟨x', h1, h2⟩ := part_run (P := P) (w := w) (t := fd.type) (n := 0) hl (.inr ⟨ha, hp⟩)
            refine Out.stay S (x := x') ?_ h2
            simp [execOp, ho, Instr.field, run_underlying hu, hf, e, asAgg, h1]
        · cases hc
      · cases hc
    · cases hc
  case indexAddr t x i =>
    split at hc
    · rename_i e hu
      split at hc
      · rename_i s hs
        cases hc
        obtain ⟨u1, u2, rfl, hX, hY⟩ := hv.two
        match u1, u2, hX, hY, he with
        | .sl (some r) len cap gr, .i kk n, hX, hY, he =>
          obtain ⟨hp, rfl⟩ := evalK_P (fun _ => rfl) he
          simp only [evalP] at hp
          split at hp
          · rename_i hb
            cases hp
            obtain ⟨a, c, e1, h1, _⟩ := hX.inv_sl
            obtain ⟨b, rfl, hr⟩ := h1 r rfl
            have e2 := hY.inv_i
            refine Out.stay S (x := .pointer (some (b.add (n.toNat * s)))) ?_ (VR.mk_p (hr.add _))
            simp [execOp, ho, Instr.indexAt, e1, e2, asIntOf, run_underlying hu, hb.1, hb.2, sizeT_run hs]
          · cases hp
      · cases hc
    · rename_i m e hu
      split at hc
      · rename_i s hs
        cases hc
        obtain ⟨u1, u2, rfl, hX, hY⟩ := hv.two
        match u1, u2, hX, hY, he with
        | .p (some r), .i kk n, hX, hY, he =>
          obtain ⟨hp, rfl⟩ := evalK_P (fun _ => rfl) he
          simp only [evalP] at hp
          split at hp
          · rename_i hb
            cases hp
            obtain ⟨a, e1, hr⟩ := hX.inv_p
            have e2 := hY.inv_i
            refine Out.stay S (x := .pointer (some (a.add (n.toNat * s)))) ?_ (VR.mk_p (hr.add _))
            simp [execOp, ho, Instr.indexAt, e1, e2, asIntOf, run_underlying hu, Instr.sureAddr, hb.1, hb.2, sizeT_run hs]
          · cases hp
      · cases hc
    · cases hc
  case index t x i =>
    split at hc
    · rename_i m e hu
      split at hc
      · rename_i s hs ha
        cases hc
        obtain ⟨u1, u2, rfl, hX, hY⟩ := hv.two
        match u1, u2, hX, hY, he with
        | .agg cs, .i kk n, hX, hY, he =>
          obtain ⟨hp, rfl⟩ := evalK_P (fun _ => rfl) he
          simp only [evalP] at hp
          split at hp
          · rename_i hb
            cases hp
            obtain ⟨ys, e1, hl⟩ := hX.inv_agg
            have e2 := hY.inv_i
            obtain ⟨x', h1, h2⟩ := part_run (P := P) (w := w) (t := e) (off := n.toNat * s) hl (.inl ⟨ha, hs, hb.2.2, rfl⟩)
            refine Out.stay S (x := x') ?_ h2
            simp [execOp, ho, Instr.index, run_underlying hu, e1, e2, asIntOf, hb.1, hb.2.1, sizeT_run hs, h1]
          · cases hp
      · rename_i s hs ha
        cases hc
        obtain ⟨u1, u2, rfl, hX, hY⟩ := hv.two
        match u1, u2, hX, hY, he with
        | .agg cs, .i kk n, hX, hY, he =>
          obtain ⟨hp, rfl⟩ := evalK_P (fun _ => rfl) he
          simp only [evalP] at hp
          split at hp
          · rename_i hb
            obtain ⟨ys, e1, hl⟩ := hX.inv_agg
            have e2 := hY.inv_i
            obtain ⟨x', h1, h2⟩ := part_run (P := P) (w := w) (t := e) (off := n.toNat * s) (n := 0) hl (.inr ⟨ha, hp⟩)
            refine Out.stay S (x := x') ?_ h2
            simp [execOp, ho, Instr.index, run_underlying hu, e1, e2, asIntOf, hb.1, hb.2, sizeT_run hs, h1]
          · cases hp
      · cases hc
    · rename_i hu
      cases hc
      obtain ⟨u1, u2, rfl, hX, hY⟩ := hv.two
      match u1, u2, hX, hY, he with
      | .s q, .i kk n, hX, hY, he =>
        obtain ⟨hp, rfl⟩ := evalK_P (fun _ => rfl) he
        simp only [evalP] at hp
        split at hp
        · rename_i hb
          split at hp
          · rename_i c hq
            cases hp
            have e1 := hX.inv_s
            have e2 := hY.inv_i
            refine Out.stay S (x := .int .u8 c.toNat) ?_ (VR.mk_i _ _)
            simp [execOp, ho, Instr.index, run_underlying hu, e1, e2, asIntOf, hb, hq]
          · cases hp
        · cases hp
    · cases hc
  case extract x i =>
    cases hc
    obtain ⟨u, rfl, hX⟩ := hv.one
    match u, hX, he with
    | .tup ts, hX, he =>
      obtain ⟨hp, rfl⟩ := evalK_P (fun _ => rfl) he
      simp only [evalP] at hp
      obtain ⟨ys, e, hl⟩ := hX.inv_tup
      obtain ⟨y, hy, hr⟩ := hl.get i v hp
      have hy' : ys[i]? = some y := by simpa using hy
      refine Out.stay S (x := y) ?_ hr
      simp [execOp, ho, e, Instr.extract, hy']
  case call c => exact compCall_sound hc hk ho hv S he
end ops
end Go.V
