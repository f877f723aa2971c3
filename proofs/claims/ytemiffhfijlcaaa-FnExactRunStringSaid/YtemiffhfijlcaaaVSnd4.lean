import Derived.Test.YtemiffhfijlcaaaVSnd3
set_option linter.unusedSimpArgs false
set_option linter.unusedVariables false
set_option linter.unusedSectionVars false
/-! The table of operations, at last. -/
namespace Go.V
open Go Go.RowKit
section ops
variable {P : Program} {W0 : World} {ρ : Rho} {h : H} {w : World}

/-- '==' and '!=' where the model asks 'equal'. -/
theorem eq_run {t : TypeId} {ne : Bool} {a b : Operand} {X Y : Value} {r : Bool} (hg : ¬ X matches .nilIface | .agg _)
    (h1 : binOp .eql t X Y = (do pure (.bool (← Op.equal t X Y)))) (h2 : binOp .neq t X Y = (do pure (.bool (!(← Op.equal t X Y))))) (hr : (Op.equal t X Y).run P w = .ok r w) :
    (do eqGuard (if ne then .neq else .eql) t a b X Y; binOp (if ne then .neq else .eql) t X Y : Sem Value).run P w = .ok (.bool (if ne then !r else r)) w := by
  cases ne
  · simp only [Bool.false_eq_true, if_false, Sem.run_bind, eqGuard_run hg, Result.andThen_ok, h1, hr, Sem.run_pure]
  · simp only [if_true, Sem.run_bind, eqGuard_run hg, Result.andThen_ok, h2, hr, Sem.run_pure]

theorem equalIn_bool (d : Nat) {t : TypeId} (ht : P.underlying t = some .bool) (x y : Bool) : (Op.equalIn (d + 1) t (.bool x) (.bool y)).run P w = .ok (x == y) w := by
  simp [Op.equalIn, run_underlying ht]
theorem equal_bool {t : TypeId} (ht : P.underlying t = some .bool) (x y : Bool) : (Op.equal t (.bool x) (.bool y)).run P w = .ok (x == y) w := equalIn_bool 9999 ht x y
theorem equalIn_pnil (d : Nat) {t e : TypeId} (ht : P.underlying t = some (.pointer e)) (x : Option Addr) : (Op.equalIn (d + 1) t (.pointer x) (.pointer none)).run P w = .ok x.isNone w := by
  cases x <;> simp [Op.equalIn, run_underlying ht]
theorem equal_pnil {t e : TypeId} (ht : P.underlying t = some (.pointer e)) (x : Option Addr) : (Op.equal t (.pointer x) (.pointer none)).run P w = .ok x.isNone w := equalIn_pnil 9999 ht x
theorem equalIn_nilp (d : Nat) {t e : TypeId} (ht : P.underlying t = some (.pointer e)) (a : Addr) : (Op.equalIn (d + 1) t (.pointer none) (.pointer (some a))).run P w = .ok false w := by
  simp [Op.equalIn, run_underlying ht]
theorem equal_nilp {t e : TypeId} (ht : P.underlying t = some (.pointer e)) (a : Addr) : (Op.equal t (.pointer none) (.pointer (some a))).run P w = .ok false w := equalIn_nilp 9999 ht a
theorem equalIn_pp (d : Nat) {t e : TypeId} {n : Nat} (ht : P.underlying t = some (.pointer e)) (hs : sizeT P e = some n) (hn : n ≠ 0) (a b : Addr) (hab : a.block = b.block) : (Op.equalIn (d + 1) t (.pointer (some a)) (.pointer (some b))).run P w = .ok (a == b) w := by
  simp [Op.equalIn, run_underlying ht, sizeT_run hs, hn, sameAddr, hab]
theorem equal_pp {t e : TypeId} {n : Nat} (ht : P.underlying t = some (.pointer e)) (hs : sizeT P e = some n) (hn : n ≠ 0) (a b : Addr) (hab : a.block = b.block) : (Op.equal t (.pointer (some a)) (.pointer (some b))).run P w = .ok (a == b) w := equalIn_pp 9999 ht hs hn a b hab
theorem equalIn_snil (d : Nat) {t e : TypeId} (ht : P.underlying t = some (.slice e)) (x : Option Addr) (n c n' c' : Nat) : (Op.equalIn (d + 1) t (.slice x n c) (.slice none n' c')).run P w = .ok x.isNone w := by
  cases x <;> simp [Op.equalIn, run_underlying ht]
theorem equal_snil {t e : TypeId} (ht : P.underlying t = some (.slice e)) (x : Option Addr) (n c n' c' : Nat) : (Op.equal t (.slice x n c) (.slice none n' c')).run P w = .ok x.isNone w := equalIn_snil 9999 ht x n c n' c'
theorem equalIn_fnil (d : Nat) {t : TypeId} {ps rs : Array TypeId} {b : Bool} (ht : P.underlying t = some (.func ps rs b)) (f : Fn) (x y : Array Value) : (Op.equalIn (d + 1) t (.func f x y) .nilFunc).run P w = .ok false w := by
  simp [Op.equalIn, run_underlying ht]
theorem equal_fnil {t : TypeId} {ps rs : Array TypeId} {b : Bool} (ht : P.underlying t = some (.func ps rs b)) (f : Fn) (x y : Array Value) : (Op.equal t (.func f x y) .nilFunc).run P w = .ok false w := equalIn_fnil 9999 ht f x y
theorem equalIn_fnn (d : Nat) {t : TypeId} {ps rs : Array TypeId} {b : Bool} (ht : P.underlying t = some (.func ps rs b)) : (Op.equalIn (d + 1) t .nilFunc .nilFunc).run P w = .ok true w := by
  simp [Op.equalIn, run_underlying ht]
theorem equal_fnn {t : TypeId} {ps rs : Array TypeId} {b : Bool} (ht : P.underlying t = some (.func ps rs b)) : (Op.equal t .nilFunc .nilFunc).run P w = .ok true w := equalIn_fnn 9999 ht 
theorem evalK_P {k : K} {vs : List AV} {v : AV} {h' : H} (hk : ∀ h, evalK k vs h = match evalP k vs with
    | some v => some (v, h)
    | none => none) (he : evalK k vs h = some (v, h')) : evalP k vs = some v ∧ h' = h := by
  rw [hk] at he
  split at he
  · rename_i v' hv; cases he; exact ⟨hv, rfl⟩
  · cases he

/-- A comparison by 'equal', out. -/
theorem eqOut {o : Oper} {σ : Operand → Value} {ne : Bool} {t yt : TypeId} {x y : Operand} (ho : o.op = .binOp (if ne then .neq else .eql) t x y yt) (S : Sim W0 ρ h w) {r : Bool} (hg : ¬ σ x matches .nilIface | .agg _)
    (h1 : binOp .eql t (σ x) (σ y) = (do pure (.bool (← Op.equal t (σ x) (σ y))))) (h2 : binOp .neq t (σ x) (σ y) = (do pure (.bool (!(← Op.equal t (σ x) (σ y)))))) (hr : (Op.equal t (σ x) (σ y)).run P w = .ok r w) :
    Out P W0 ρ h w (.b (if ne then !r else r)) h (execOp σ o) := by
  unfold execOp
  rw [ho]
  exact Out.ofP S ⟨_, eq_run hg h1 h2 hr, VR.mk_b _⟩

theorem eqB_sound {o : Oper} {σ : Operand → Value} {ne : Bool} {t yt : TypeId} {x y : Operand} (ho : o.op = .binOp (if ne then .neq else .eql) t x y yt) (ht : P.underlying t = some .bool) (S : Sim W0 ρ h w) {vs : List AV} {v : AV} {h' : H}
    (hv : VRs ρ vs [σ x, σ y]) (he : evalK (.eqB ne) vs h = some (v, h')) : Out P W0 ρ h w v h' (execOp σ o) := by
  obtain ⟨hp, rfl⟩ := evalK_P (fun _ => rfl) he
  clear he
  have he := hp
  clear hp
  obtain ⟨u1, u2, rfl, hX, hY⟩ := hv.two
  match u1, u2, hX, hY, he with
  | .b p, .b q, hX, hY, he =>
  have e1 := hX.inv_b; have e2 := hY.inv_b
  have := eqOut (P := P) (σ := σ) (r := p == q) ho S (by rw [e1]; simp) (by rw [e1, e2]; rfl) (by rw [e1, e2]; rfl) (by rw [e1, e2]; exact equal_bool ht p q)
  cases he
  have hb : (if ne then p != q else p == q) = (if ne then !(p == q) else (p == q)) := by cases ne <;> rfl
  rw [hb]; exact this

theorem eqP_sound {o : Oper} {σ : Operand → Value} {ne : Bool} {t yt e : TypeId} {n : Nat} {x y : Operand} (ho : o.op = .binOp (if ne then .neq else .eql) t x y yt) (ht : P.underlying t = some (.pointer e)) (hs : sizeT P e = some n) (hn : n ≠ 0) (S : Sim W0 ρ h w) {vs : List AV} {v : AV} {h' : H}
    (hv : VRs ρ vs [σ x, σ y]) (he : evalK (.eqP ne) vs h = some (v, h')) : Out P W0 ρ h w v h' (execOp σ o) := by
  obtain ⟨hp, rfl⟩ := evalK_P (fun _ => rfl) he
  clear he
  have he := hp
  clear hp
  obtain ⟨u1, u2, rfl, hX, hY⟩ := hv.two
  cases u1 with
  | p p1 => cases u2 with
    | p p2 =>
      cases p2 with
      | none =>
        have hp : ∃ a, σ x = .pointer a ∧ a.isNone = p1.isNone := by
          cases p1 with
          | none => exact ⟨none, hX.inv_pn, rfl⟩
          | some r => obtain ⟨a, e1, _⟩ := hX.inv_p; exact ⟨some a, e1, rfl⟩
        obtain ⟨a, e1, hn1⟩ := hp
        have e2 := hY.inv_pn
        have := eqOut (P := P) (σ := σ) (r := a.isNone) ho S (by rw [e1]; simp) (by rw [e1, e2]; cases a <;> rfl) (by rw [e1, e2]; cases a <;> rfl) (by rw [e1, e2]; exact equal_pnil ht a)
        have hb : v = .b (if ne then !a.isNone else a.isNone) := by
          cases p1 <;> cases ne <;> simp [evalP] at he <;> subst he <;> simp_all
        rw [hb]; exact this
      | some r2 =>
        obtain ⟨b, e2, hr2⟩ := hY.inv_p
        cases p1 with
        | none =>
          have e1 := hX.inv_pn
          simp [evalP] at he
          subst he
          have := eqOut (P := P) (σ := σ) (r := false) ho S (by rw [e1]; simp) (by rw [e1, e2]; rfl) (by rw [e1, e2]; rfl) (by rw [e1, e2]; exact equal_nilp ht b)
          have hb : ne = (if ne then !false else false) := by cases ne <;> rfl
          rw [hb]; exact this
        | some r1 =>
          obtain ⟨a, e1, hr1⟩ := hX.inv_p
          simp only [evalP] at he
          split at he
          · rename_i hbk
            obtain ⟨n1, hn1, rfl⟩ := hr1
            obtain ⟨n2, hn2, rfl⟩ := hr2
            rw [hbk, hn2] at hn1
            injection hn1 with hn1
            subst hn1
            have := eqOut (P := P) (σ := σ) ho S (by rw [e1]; simp) (by rw [e1, e2]; rfl) (by rw [e1, e2]; rfl) (by rw [e1, e2]; exact equal_pp ht hs hn ⟨n2.c, n2.sh + r1.o, none⟩ ⟨n2.c, n2.sh + r2.o, none⟩ rfl)
            cases he
            have hoo : ((⟨n2.c, n2.sh + r1.o, none⟩ : Addr) == ⟨n2.c, n2.sh + r2.o, none⟩) = (r1.o == r2.o) := by
              rw [Bool.eq_iff_iff]
              simp
            rw [hoo] at this
            have hb : (if ne then r1.o != r2.o else r1.o == r2.o) = (if ne then !(r1.o == r2.o) else (r1.o == r2.o)) := by cases ne <;> rfl
            rw [hb]; exact this
          · cases he
    | _ => cases p1 <;> simp [evalP] at he
  | _ => simp [evalP] at he

theorem eqSl_sound {o : Oper} {σ : Operand → Value} {ne : Bool} {t yt e : TypeId} {x y : Operand} (ho : o.op = .binOp (if ne then .neq else .eql) t x y yt) (ht : P.underlying t = some (.slice e)) (S : Sim W0 ρ h w) {vs : List AV} {v : AV} {h' : H}
    (hv : VRs ρ vs [σ x, σ y]) (he : evalK (.eqSl ne) vs h = some (v, h')) : Out P W0 ρ h w v h' (execOp σ o) := by
  obtain ⟨hp, rfl⟩ := evalK_P (fun _ => rfl) he
  clear he
  have he := hp
  clear hp
  obtain ⟨u1, u2, rfl, hX, hY⟩ := hv.two
  cases u1 with
  | sl r len cap gr => cases u2 with
    | sl r2 len2 cap2 gr2 =>
      cases r2 with
      | some _ => simp [evalP] at he
      | none =>
        obtain ⟨a, c, e1, ha, hb⟩ := hX.inv_sl
        have e2 := hY.inv_sln
        have hn1 : a.isNone = r.isNone := by
          cases r with
          | none => rw [hb rfl]; rfl
          | some q => obtain ⟨b, rfl, _⟩ := ha q rfl; rfl
        have := eqOut (P := P) (σ := σ) (r := a.isNone) ho S (by rw [e1]; simp) (by rw [e1, e2]; rfl) (by rw [e1, e2]; rfl) (by rw [e1, e2]; exact equal_snil ht a len c len2 cap2)
        have hb : v = .b (if ne then !a.isNone else a.isNone) := by
          cases r <;> cases ne <;> simp [evalP] at he <;> subst he <;> simp_all
        rw [hb]; exact this
    | _ => simp [evalP] at he
  | _ => simp [evalP] at he

theorem eqFn_sound {o : Oper} {σ : Operand → Value} {ne : Bool} {t yt : TypeId} {ps rs : Array TypeId} {vb : Bool} {x y : Operand} (ho : o.op = .binOp (if ne then .neq else .eql) t x y yt) (ht : P.underlying t = some (.func ps rs vb)) (S : Sim W0 ρ h w) {vs : List AV} {v : AV} {h' : H}
    (hv : VRs ρ vs [σ x, σ y]) (he : evalK (.eqFn ne) vs h = some (v, h')) : Out P W0 ρ h w v h' (execOp σ o) := by
  obtain ⟨hp, rfl⟩ := evalK_P (fun _ => rfl) he
  clear he
  have he := hp
  clear hp
  obtain ⟨u1, u2, rfl, hX, hY⟩ := hv.two
  match u1, u2, hX, hY, he with
  | .fn f caps, .nilF, hX, hY, he =>
    obtain ⟨cs, e1, _⟩ := hX.inv_fn
    have e2 := hY.inv_nilF
    have := eqOut (P := P) (σ := σ) (r := false) ho S (by rw [e1]; simp) (by rw [e1, e2]; rfl) (by rw [e1, e2]; rfl) (by rw [e1, e2]; exact equal_fnil ht _ _ _)
    cases he
    have hb : ne = (if ne then !false else false) := by cases ne <;> rfl
    rw [hb]; exact this
  | .nilF, .nilF, hX, hY, he =>
    have e1 := hX.inv_nilF
    have e2 := hY.inv_nilF
    have := eqOut (P := P) (σ := σ) (r := true) ho S (by rw [e1]; simp) (by rw [e1, e2]; rfl) (by rw [e1, e2]; rfl) (by rw [e1, e2]; exact equal_fnn ht)
    cases he
    have hb : (!ne) = (if ne then !true else true) := by cases ne <;> rfl
    rw [hb]; exact this

theorem bin_sound {o : Oper} {σ : Operand → Value} {op : BinOp} {t yt : TypeId} {x y : Operand} (ho : o.op = .binOp op t x y yt) (S : Sim W0 ρ h w) {vs : List AV} {v : AV} {h' : H}
    (hv : VRs ρ vs [σ x, σ y]) (he : evalK (.bin op) vs h = some (v, h')) : Out P W0 ρ h w v h' (execOp σ o) := by
  obtain ⟨hp, rfl⟩ := evalK_P (fun _ => rfl) he
  clear he
  have he := hp
  clear hp
  obtain ⟨u1, u2, rfl, hX, hY⟩ := hv.two
  simp only [evalP] at he
  unfold execOp
  rw [ho]
  exact Out.of S (binV_run hX hY he)
end ops
end Go.V
