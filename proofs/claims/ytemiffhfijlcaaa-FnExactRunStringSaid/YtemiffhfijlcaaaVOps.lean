import Derived.Test.YtemiffhfijlcaaaVComp
import Derived.Laws.Sem
import Derived.Laws.NewFold
import Derived.Laws.Append
set_option linter.unusedSimpArgs false
set_option linter.unusedVariables false
set_option linter.unusedSectionVars false
/-! Each operation of the small code tells what the model's does. -/
namespace Go.V
open Go Go.RowKit

section inv
variable {ρ : Rho} {X : Value}
theorem VR.inv_b {x : Bool} (h : VR ρ (.b x) X) : X = .bool x := by cases X <;> simp_all [VR]
theorem VR.inv_i {k : IntKind} {n : Int} (h : VR ρ (.i k n) X) : X = .int k n := by cases X <;> simp_all [VR]
theorem VR.inv_f {k : FloatKind} {x : Nat} (h : VR ρ (.f k x) X) : ∃ y, X = .float k y ∧ x = cn k y := by
  cases X with
  | float k' y => simp only [VR] at h; obtain ⟨rfl, h⟩ := h; exact ⟨y, rfl, h⟩
  | _ => simp [VR] at h
theorem VR.inv_s {x : ByteArray} (h : VR ρ (.s x) X) : X = .string x := by cases X <;> simp_all [VR]
theorem VR.inv_p {r : Ref} (h : VR ρ (.p (some r)) X) : ∃ a, X = .pointer (some a) ∧ RR ρ r a := by
  cases X with
  | pointer a => cases a with
    | none => simp [VR] at h
    | some a => exact ⟨a, rfl, by simpa [VR] using h⟩
  | _ => simp [VR] at h
theorem VR.inv_pn (h : VR ρ (.p none) X) : X = .pointer none := by
  cases X with
  | pointer a => cases a <;> simp_all [VR]
  | _ => simp [VR] at h
theorem VR.inv_sln {len cap : Nat} {gr : Option Nat} (h : VR ρ (.sl none len cap gr) X) : X = .slice none len cap := by
  cases X with
  | slice a l c => cases a <;> simp_all [VR]
  | _ => simp [VR] at h
theorem VR.inv_sle {r : Ref} {len cap : Nat} (h : VR ρ (.sl (some r) len cap none) X) : ∃ a, X = .slice (some a) len cap ∧ RR ρ r a := by
  cases X with
  | slice a l c => cases a with
    | none => simp [VR] at h
    | some a => simp only [VR] at h; obtain ⟨h, rfl, rfl⟩ := h; exact ⟨a, rfl, h⟩
  | _ => simp [VR] at h
theorem VR.inv_slg {r : Ref} {len cap es : Nat} (h : VR ρ (.sl (some r) len cap (some es)) X) :
    ∃ a c, X = .slice (some a) len c ∧ RR ρ r a ∧ len ≤ cap ∧ cap ≤ c ∧ ∀ n, ρ r.b = some n → a.off + c * es ≤ n.sz := by
  cases X with
  | slice a l c => cases a with
    | none => simp [VR] at h
    | some a => simp only [VR] at h; obtain ⟨h, rfl, h2⟩ := h; exact ⟨a, c, rfl, h, h2⟩
  | _ => simp [VR] at h
theorem VR.inv_sl {r : Option Ref} {len cap : Nat} {gr : Option Nat} (h : VR ρ (.sl r len cap gr) X) : ∃ a c, X = .slice a len c ∧ (∀ q, r = some q → ∃ b, a = some b ∧ RR ρ q b) ∧ (r = none → a = none) := by
  cases r with
  | none => exact ⟨none, cap, h.inv_sln, fun _ e => (by cases e), fun _ => rfl⟩
  | some q => cases gr with
    | none => obtain ⟨a, rfl, hr⟩ := h.inv_sle; exact ⟨some a, cap, rfl, fun q' e => ⟨a, rfl, by injection e with e; subst e; exact hr⟩, fun e => by cases e⟩
    | some es => obtain ⟨a, c, rfl, hr, _⟩ := h.inv_slg; exact ⟨some a, c, rfl, fun q' e => ⟨a, rfl, by injection e with e; subst e; exact hr⟩, fun e => by cases e⟩
theorem VR.inv_fn {f : FuncId} {caps : List AV} (h : VR ρ (.fn f caps) X) : ∃ cs, X = .func (.func f) #[] cs ∧ VRs ρ caps cs.toList := by
  cases X with
  | func fn first captured => cases fn with
    | func f' => simp only [VR] at h; obtain ⟨rfl, rfl, h⟩ := h; exact ⟨captured, rfl, h⟩
    | _ => simp [VR] at h
  | _ => simp [VR] at h
theorem VR.inv_nilF (h : VR ρ .nilF X) : X = .nilFunc := by cases X <;> simp_all [VR]
theorem VR.inv_nilI (h : VR ρ .nilI X) : X = .nilIface := by cases X <;> simp_all [VR]
theorem VR.inv_ifc {t : TypeId} {v : AV} (h : VR ρ (.ifc t v) X) : ∃ x, X = .iface t x ∧ VR ρ v x := by
  cases X with
  | iface t' x => simp only [VR] at h; obtain ⟨rfl, h⟩ := h; exact ⟨x, rfl, h⟩
  | _ => simp [VR] at h
theorem VR.inv_agg {cs : List AV} (h : VR ρ (.agg cs) X) : ∃ xs, X = .agg xs ∧ VRs ρ cs xs.toList := by
  cases X with
  | agg xs => exact ⟨xs, rfl, by simpa [VR] using h⟩
  | _ => simp [VR] at h
theorem VR.inv_tup {cs : List AV} (h : VR ρ (.tup cs) X) : ∃ xs, X = .tuple xs ∧ VRs ρ cs xs.toList := by
  cases X with
  | tuple xs => exact ⟨xs, rfl, by simpa [VR] using h⟩
  | _ => simp [VR] at h
theorem VRs.inv_cons {v : AV} {vs : List AV} {xs : List Value} (h : VRs ρ (v :: vs) xs) : ∃ x ys, xs = x :: ys ∧ VR ρ v x ∧ VRs ρ vs ys := by
  cases xs with
  | nil => simp [VRs] at h
  | cons x ys => exact ⟨x, ys, rfl, by simpa [VRs] using h⟩
theorem VRs.inv_nil {xs : List Value} (h : VRs ρ [] xs) : xs = [] := by cases xs <;> simp_all [VRs]
/-- The other way: from the model's list. -/
theorem VRs.one {vs : List AV} {x : Value} (h : VRs ρ vs [x]) : ∃ v, vs = [v] ∧ VR ρ v x := by
  cases vs with
  | nil => simp [VRs] at h
  | cons v vs => simp only [VRs] at h; cases vs with
    | nil => exact ⟨v, rfl, h.1⟩
    | cons _ _ => simp [VRs] at h
theorem VRs.two {vs : List AV} {x y : Value} (h : VRs ρ vs [x, y]) : ∃ v u, vs = [v, u] ∧ VR ρ v x ∧ VR ρ u y := by
  cases vs with
  | nil => simp [VRs] at h
  | cons v vs => simp only [VRs] at h; obtain ⟨u, rfl, hu⟩ := h.2.one; exact ⟨v, u, rfl, h.1, hu⟩
theorem VRs.three {vs : List AV} {x y z : Value} (h : VRs ρ vs [x, y, z]) : ∃ v u t, vs = [v, u, t] ∧ VR ρ v x ∧ VR ρ u y ∧ VR ρ t z := by
  cases vs with
  | nil => simp [VRs] at h
  | cons v vs => simp only [VRs] at h; obtain ⟨u, t, rfl, hu, ht⟩ := h.2.two; exact ⟨v, u, t, rfl, h.1, hu, ht⟩
theorem VR.mk_i (k : IntKind) (n : Int) : VR ρ (.i k n) (.int k n) := by simp [VR]
theorem VR.mk_b (b : Bool) : VR ρ (.b b) (.bool b) := by simp [VR]
theorem VR.mk_f (k : FloatKind) (x : Nat) : VR ρ (.f k (cn k x)) (.float k x) := by simp [VR]
theorem VR.mk_s (s : ByteArray) : VR ρ (.s s) (.string s) := by simp [VR]
theorem VR.mk_p {r : Ref} {a : Addr} (h : RR ρ r a) : VR ρ (.p (some r)) (.pointer (some a)) := by simpa [VR] using h
end inv

/-- What an operation of the model does, told by the small code. -/
def Out (P : Program) (W0 : World) (ρ : Rho) (h : H) (w : World) (v : AV) (h' : H) (s : Sem Next) : Prop :=
  ∃ x w' ρ', (s.run P w = .ok (.value x) w' ∨ (s.run P w = .ok .skip w' ∧ x = undef)) ∧ VR ρ' v x ∧ Sim W0 ρ' h' w' ∧ Grow ρ h w ρ' h' w'

section ops
variable {P : Program} {W0 : World} {ρ : Rho} {h : H} {w : World}

theorem Out.stayN (S : Sim W0 ρ h w) {v : AV} {x : Value} {s : Sem Next} (j : Nat) (hr : s.run P w = .ok (.value x) (w.drewN j)) (hv : VR ρ v x) : Out P W0 ρ h w v h s :=
  ⟨x, w.drewN j, ρ, .inl hr, hv, S.drewN j, Grow.drewN ρ h w j⟩
theorem Out.stay (S : Sim W0 ρ h w) {v : AV} {x : Value} {s : Sem Next} (hr : s.run P w = .ok (.value x) w) (hv : VR ρ v x) : Out P W0 ρ h w v h s :=
  Out.stayN S 0 hr hv
/-- The usual form: a value, wrapped. -/
theorem Out.of (S : Sim W0 ρ h w) {v : AV} {s : Sem Value} (hh : ∃ x j, s.run P w = .ok x (w.drewN j) ∧ VR ρ v x) : Out P W0 ρ h w v h (do pure (.value (← s))) := by
  obtain ⟨x, j, hr, hv⟩ := hh
  exact Out.stayN S j (by simp [hr]) hv

theorem floatArith_drew (op : BinOp) (hop : op = .add ∨ op = .sub ∨ op = .mul ∨ op = .quo) (k : FloatKind) (x y : Nat) :
    ∃ r j, (Op.floatArith op k x y).run P w = .ok (.float k r) (w.drewN j) ∧ cn k r = fop op k (cn k x) (cn k y) := by
  have e : fop op k (cn k x) (cn k y) = fop op k x y := by unfold fop; rw [floatBits_cn]
  rw [e]
  have key : ∀ (o : Option Nat), floatBits op k x y = o → (Op.floatArith op k x y).run P w = (match o with
      | some r => Result.ok (.float k r) w
      | none => Result.ok (.float k ((Question.nanBits k x y).cut (w.tape w.drawn (Question.nanBits k x y)))) w.drew) := by
    intro o ho
    subst ho
    rcases hop with rfl | rfl | rfl | rfl <;> simp only [Op.floatArith, floatBits, Sem.run_bind, Sem.run_pure, Result.andThen_ok] <;> split <;> simp_all [Question.forced]
  cases ho : floatBits op k x y with
  | some r =>
    refine ⟨r, 0, by rw [key _ ho]; rfl, ?_⟩
    rw [cn_of_not (floatBits_solid ho), fop, ho]; rfl
  | none =>
    refine ⟨_, 1, by rw [key _ ho]; rfl, ?_⟩
    rw [cn_of_nan (isNaN_cut k x y _), fop, ho]; rfl

theorem floatCmp_run {op : BinOp} {k : FloatKind} {x y : Nat} {b : Bool} (h : fcmp op k (cn k x) (cn k y) = some b) : (Op.floatCmp op k x y).run P w = .ok (.bool b) w := by
  rw [fcmp_cn] at h
  unfold fcmp at h
  unfold Op.floatCmp
  cases op <;> simp_all

theorem eqGuard_run {op : BinOp} {t : TypeId} {x y : Operand} {a b : Value} (ha : ¬ a matches .nilIface | .agg _) : (eqGuard op t x y a b).run P w = .ok () w := by
  unfold eqGuard
  cases op <;> cases a <;> simp_all

theorem binV_run {op : BinOp} {t : TypeId} {u v r : AV} {X Y : Value} {a b : Operand} (hu : VR ρ u X) (hv : VR ρ v Y) (he : binV op u v = some r) :
    ∃ R j, (do eqGuard op t a b X Y; binOp op t X Y : Sem Value).run P w = .ok R (w.drewN j) ∧ VR ρ r R := by
  cases u <;> cases v <;> simp only [binV] at he <;> try (cases he; done)
  case i.i k m k' n =>
    have hX := hu.inv_i; have hY := hv.inv_i; subst hX; subst hY
    simp only [Sem.run_bind, eqGuard_run (P := P) (w := w) (t := t) (op := op) (x := a) (y := b) (a := .int k m) (b := .int k' n) (by simp), Result.andThen_ok]
    by_cases hs : isShift op = true
    · simp only [hs, if_true] at he
      unfold ishift at he
      split at he
      · cases he
      · rename_i hn
        cases op <;> simp only [isShift, Bool.false_eq_true] at hs he <;> first | (cases he; done) | (cases he; refine ⟨_, 0, ?_, VR.mk_i _ _⟩; simp [binOp, Op.shift, hn]; rfl)
    · simp only [hs, if_false, Bool.false_eq_true] at he
      split at he
      · rename_i hk
        subst hk
        cases op <;> simp only [isShift, Bool.false_eq_true, not_false_eq_true, not_true_eq_false] at hs <;> simp only [ibin] at he
        all_goals first
          | (cases he; done)
          | (cases he; refine ⟨_, 0, ?_, VR.mk_i _ _⟩; simp only [binOp, ne_eq, not_true_eq_false, if_false, Op.intArith, Op.intBits, Sem.run_pure]; rfl)
          | (cases he; refine ⟨_, 0, ?_, VR.mk_b _⟩; simp only [binOp, ne_eq, not_true_eq_false, if_false, Op.intCmp, Sem.run_pure]; rfl)
          | (split at he
             · cases he
             · rename_i h0
               cases he; refine ⟨_, 0, ?_, VR.mk_i _ _⟩; simp only [binOp, ne_eq, not_true_eq_false, if_false, Op.intDiv, h0, Sem.run_pure]; rfl)
      · cases he
  case f.f k m k' n =>
    obtain ⟨x, hX, rfl⟩ := hu.inv_f; obtain ⟨y, hY, rfl⟩ := hv.inv_f
    subst hX; subst hY
    simp only [Sem.run_bind, eqGuard_run (P := P) (w := w) (t := t) (op := op) (x := a) (y := b) (a := .float k x) (b := .float k' y) (by simp), Result.andThen_ok]
    split at he
    · rename_i hk
      subst hk
      by_cases hop : op = .add ∨ op = .sub ∨ op = .mul ∨ op = .quo
      · obtain ⟨r', j, hr, hc⟩ := floatArith_drew (P := P) (w := w) op hop k x y
        have he' : r = .f k (fop op k (cn k x) (cn k y)) := by rcases hop with rfl | rfl | rfl | rfl <;> (simp [fbin] at he; exact he.symm)
        subst he'
        refine ⟨_, j, ?_, show VR ρ _ (.float k r') from by simp [VR, hc]⟩
        rcases hop with rfl | rfl | rfl | rfl <;> (simp only [binOp, ne_eq, not_true_eq_false, if_false]; exact hr)
      · have he' : (fcmp op k (cn k x) (cn k y)).map AV.b = some r := by cases op <;> simp_all [fbin]
        rw [Option.map_eq_some_iff] at he'
        obtain ⟨bb, hb, rfl⟩ := he'
        refine ⟨.bool bb, 0, ?_, by simp [VR]⟩
        have := floatCmp_run (P := P) (w := w) hb
        cases op <;> first | (simp [fcmp] at hb; done) | (simp only [binOp, ne_eq, not_true_eq_false, if_false]; exact this)
    · cases he
  case s.s m n =>
    have hX := hu.inv_s; have hY := hv.inv_s; subst hX; subst hY
    simp only [Sem.run_bind, eqGuard_run (P := P) (w := w) (t := t) (op := op) (x := a) (y := b) (a := .string m) (b := .string n) (by simp), Result.andThen_ok]
    unfold sbin at he
    cases op <;> simp only at he
    all_goals first
      | (cases he; done)
      | (cases he; refine ⟨_, 0, ?_, VR.mk_b _⟩; simp only [binOp, Op.stringOp, Sem.run_pure]; rfl)
      | (split at he
         · rename_i hs
           cases he; refine ⟨.string (m ++ n), 0, ?_, by simp [VR]⟩
           have : ¬ ((m.size + n.size : Nat) : Int) > IntKind.i64.max := by
             have : IntKind.i64.max = 9223372036854775807 := by decide
             omega
           simp only [binOp, Op.stringOp, this, if_false]; rfl
         · cases he)

theorem choose_drew (q : Question) (hq : q.forced = false) : (choose q).run P w = .ok (q.cut (w.tape w.drawn q)) (w.drewN 1) := by
  rw [run_choose_drew, hq]; rfl

theorem cIntV_run {s d : TypeId} {k : IntKind} {u r : AV} {X : Value} {sd : TypeDesc} (hs : P.underlying s = some sd) (hd : P.underlying d = some (.int k)) (hu : VR ρ u X) (he : cIntV k u = some r) :
    ∃ R j, (convert s d X).run P w = .ok R (w.drewN j) ∧ VR ρ r R := by
  cases u <;> simp only [cIntV] at he <;> try (cases he; done)
  case i k' n =>
    have hX := hu.inv_i; subst hX; cases he
    refine ⟨_, 0, ?_, VR.mk_i _ _⟩
    simp [convert, run_underlying hs, run_underlying hd, Conv.intToInt]; rfl
  case f k' n =>
    obtain ⟨x, hX, rfl⟩ := hu.inv_f; subst hX
    have hdec : ((k'.decode (cn k' x)).toInt .zero) = ((k'.decode x).toInt .zero) ∨ ((k'.decode (cn k' x)).toInt .zero) = none := by
      cases hn : isNaN k' x
      · rw [cn_of_not hn]; exact .inl rfl
      · right
        rw [cn_of_nan hn]
        cases k' <;> decide +kernel
    split at he
    · rename_i n hn
      split at he
      · rename_i hr
        cases he
        have hn' : ((k'.decode x).toInt .zero) = some n := by
          rcases hdec with e | e
          · rw [← e]; exact hn
          · rw [e] at hn; cases hn
        refine ⟨_, 0, ?_, VR.mk_i _ _⟩
        simp [convert, run_underlying hs, run_underlying hd, Conv.floatToInt, hn', hr]; rfl
      · cases he
    · cases he

theorem cFltV_run {s d : TypeId} {k : FloatKind} {u r : AV} {X : Value} {sd : TypeDesc} (hs : P.underlying s = some sd) (hd : P.underlying d = some (.float k)) (hu : VR ρ u X) (he : cFltV k u = some r) :
    ∃ R j, (convert s d X).run P w = .ok R (w.drewN j) ∧ VR ρ r R := by
  cases u <;> simp only [cFltV] at he <;> try (cases he; done)
  case i k' n =>
    have hX := hu.inv_i; subst hX; cases he
    refine ⟨.float k (k.nearest n), 0, ?_, ?_⟩
    · simp [convert, run_underlying hs, run_underlying hd, Conv.intToFloat]; rfl
    · have := isNaN_ofInt k n
      simp [VR, fofInt] at this ⊢
      rw [cn_of_not this]
  case f k' n =>
    obtain ⟨x, hX, rfl⟩ := hu.inv_f; subst hX
    rw [Option.map_eq_some_iff] at he
    obtain ⟨b, hb, rfl⟩ := he
    have hconv : (convert s d (.float k' x)).run P w = (Conv.floatToFloat k' x k).run P w := by
      simp [convert, run_underlying hs, run_underlying hd]
    rw [hconv]
    unfold fcvt at hb
    unfold Conv.floatToFloat
    by_cases hk : k' = k
    · subst hk
      simp only [if_true, Option.some.injEq] at hb
      subst hb
      exact ⟨.float k' x, 0, by rw [if_pos rfl]; rfl, VR.mk_f _ _⟩
    · simp only [hk, if_false] at hb ⊢
      cases hn : isNaN k' x with
      | true =>
        obtain ⟨s1, t1, e1⟩ := read_nan (isNaN_nanB k')
        obtain ⟨s2, t2, e2⟩ := read_nan hn
        have d1 : k'.decode (cn k' x) = .nan s1 t1 := by rw [cn_of_nan hn]; exact e1
        have d2 : k'.decode x = .nan s2 t2 := e2
        rw [d1] at hb
        rw [d2]
        simp only [Option.some.injEq] at hb
        subst hb
        refine ⟨_, 1, by simp only [Sem.run_bind, choose_drew (Question.nanConv k x) rfl, Result.andThen_ok, Sem.run_pure]; rfl, ?_⟩
        simp [VR]
        rw [cn_of_nan (isNaN_cut_conv _ _ _)]
      | false =>
        rw [cn_of_not hn] at hb
        cases hd2 : k'.decode x with
        | nan s2 t2 =>
          unfold isNaN at hn
          rw [show k'.format.read x = .nan s2 t2 from hd2] at hn
          cases hn
        | infinity s2 =>
          simp only [hd2, Option.some.injEq] at hb
          subst hb
          refine ⟨_, 0, rfl, ?_⟩
          have : isNaN k (k.encode (.infinity s2)) = false := isNaN_write k rfl
          simp [VR, cn_of_not this]
        | number s2 m e =>
          simp only [hd2] at hb ⊢
          split at hb
          · cases hb
          · rename_i hi
            simp only [Option.some.injEq] at hb
            subst hb
            have : isNaN k (k.encode (.number s2 m e)) = false := isNaN_write k rfl
            refine ⟨_, 0, by rw [if_neg hi]; rfl, ?_⟩
            simp [VR, cn_of_not this]
end ops
end Go.V
