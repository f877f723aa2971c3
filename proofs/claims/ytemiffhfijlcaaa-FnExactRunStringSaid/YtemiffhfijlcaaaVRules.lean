import Derived.Test.YtemiffhfijlcaaaVFun
set_option linter.unusedSimpArgs false
set_option linter.unusedVariables false
set_option linter.unusedSectionVars false
/-! Rules: what a function does, told by what is wanted behind it. -/
namespace Go.V
open Go

/-- The call of f ends, and what is wanted holds of its result. -/
def W (Φ : Phi) (f : FuncId) (args : List AV) (h : H) (Q : AV → H → Prop) : Prop := ∃ n v h', evalF Φ n f args h = some (v, h') ∧ Q v h'
/-- So for code. -/
def EvC (Φ : Phi) (c : AC) (e : Env) (h : H) (Q : AX → Env → H → Prop) : Prop := ∃ n x e' h', evalC Φ.still (evalF Φ n) n c e h = some (x, e', h') ∧ Q x e' h'
def EvOps (Φ : Phi) (os : List AOper) (e : Env) (h : H) (Q : Env → H → Prop) : Prop := ∃ n e' h', evalOps (evalF Φ n) os e h = some (e', h') ∧ Q e' h'

def Caller.le (C C' : Caller) : Prop := ∀ f args h r, C f args h = some r → C' f args h = some r

theorem evalOp_mono {C C' : Caller} (hC : C.le C') {o : AOper} {e : Env} {h : H} {r : AV × H} (he : evalOp C o e h = some r) : evalOp C' o e h = some r := by
  unfold evalOp at he ⊢
  split at he
  · cases he
  · exact he
  · split at he
    · cases he
    · rename_i vs hvs
      cases hk : o.k with
      | call f => rw [hk] at he; exact hC _ _ _ _ he
      | callv =>
        rw [hk] at he
        match vs, he with
        | .fn f caps :: vs, he => exact hC _ _ _ _ he
      | _ => rw [hk] at he; exact he
theorem evalOps_mono {C C' : Caller} (hC : C.le C') : ∀ {os : List AOper} {e : Env} {h : H} {r : Env × H}, evalOps C os e h = some r → evalOps C' os e h = some r
  | [], _, _, _, he => he
  | o :: os, e, h, r, he => by
    simp only [evalOps] at he ⊢
    split at he
    · cases he
    · rename_i v h' h1
      rw [evalOp_mono hC h1]
      exact evalOps_mono hC he
theorem quietDraw_mono {C C' : Caller} (hC : C.le C') : ∀ {m : Nat} {os : List AOper} {e : Env} {h : H}, quietDraw C m os e h → quietDraw C' m os e h
  | 0, _, _, _, _ => by simp [quietDraw]
  | m + 1, [], _, _, _ => by simp [quietDraw]
  | m + 1, o :: os, e, h, hq => by
    simp only [quietDraw] at hq ⊢
    split at hq
    · exact hq.elim
    · rename_i v h' h1
      rw [evalOp_mono hC h1]
      exact ⟨hq.1, quietDraw_mono hC hq.2⟩
theorem turnRun_mono {C C' : Caller} (hC : C.le C') {pre : List Nat} {B : Nat} {Y : Blk} {n0 : Nat} : ∀ {j p : Nat} {os : List AOper} {e : Env} {h : H}, turnRun C pre B Y n0 j p os e h → turnRun C' pre B Y n0 j p os e h
  | _, 0, [], _, _, hq => by simp [turnRun] at hq
  | _, 0, o :: os, e, h, hq => by
    simp only [turnRun] at hq ⊢
    obtain ⟨h1, h2, h3, v, h4⟩ := hq
    exact ⟨h1, h2, h3, v, evalOp_mono hC h4⟩
  | _, p + 1, [], _, _, hq => by simp [turnRun] at hq
  | j, p + 1, o :: os, e, h, hq => by
    simp only [turnRun] at hq ⊢
    split at hq
    · exact hq.elim
    · rename_i v h' h1
      rw [evalOp_mono hC h1]
      exact ⟨hq.1, hq.2.1.imp id (evalOp_mono hC), turnRun_mono hC hq.2.2⟩
theorem turnDraw_mono {C C' : Caller} (hC : C.le C') {m : Nat} {pre : List Nat} {os : List AOper} {e : Env} {h : H} (hq : turnDraw C m pre os e h) : turnDraw C' m pre os e h :=
  let ⟨p, B, Y, hm, ht⟩ := hq; ⟨p, B, Y, hm, turnRun_mono hC ht⟩
theorem evalLoop_mono {B B' : Env → H → Option (AX × Env × H)} (hB : ∀ e h r, B e h = some r → B' e h = some r) : ∀ {n n' : Nat}, n ≤ n' → ∀ {e : Env} {h : H} {r : AX × Env × H}, evalLoop B n e h = some r → evalLoop B' n' e h = some r
  | 0, _, _, _, _, _, he => by simp [evalLoop] at he
  | n + 1, 0, hn, _, _, _, _ => by omega
  | n + 1, n' + 1, hn, e, h, r, he => by
    simp only [evalLoop] at he ⊢
    split at he
    · rename_i e' h' h1
      rw [hB _ _ _ h1]
      exact evalLoop_mono hB (by omega) he
    · rename_i hne
      rw [hB _ _ _ he]
      obtain ⟨x, e', h'⟩ := r
      cases x with
      | normal => exact absurd he (hne e' h')
      | _ => rfl
theorem evalC_mono {q : FuncId → Bool} {C C' : Caller} (hC : C.le C') {n n' : Nat} (hn : n ≤ n') : ∀ {c : AC} {e : Env} {h : H} {r : AX × Env × H}, evalC q C n c e h = some r → evalC q C' n' c e h = some r
  | .skip, _, _, _, he => he
  | .reg keep ops, e, h, r, he => by
    simp only [evalC] at he ⊢
    split at he
    · cases he
    · rename_i e' h' h1
      rw [evalOps_mono hC h1]; exact he
  | .drw keep m pre ops, e, h, r, he => by
    simp only [evalC] at he ⊢
    split at he
    · rename_i ha
      rw [if_pos ha]
      split at he
      · cases he
      · rename_i e' h' h1
        rw [evalOps_mono hC h1]; exact he
    · rename_i ha
      rw [if_neg ha]
      split at he
      · rename_i hq
        rw [if_pos (hq.imp (quietDraw_mono hC) (turnDraw_mono hC))]
        split at he
        · cases he
        · rename_i e' h' h1
          rw [evalOps_mono hC h1]; exact he
      · cases he
  | .seq a b, e, h, r, he => by
    simp only [evalC] at he ⊢
    split at he
    · rename_i e' h' h1
      rw [evalC_mono hC hn h1]
      exact evalC_mono hC hn he
    · rename_i hne
      rw [evalC_mono hC hn he]
      obtain ⟨x, e', h'⟩ := r
      cases x with
      | normal => exact absurd he (hne e' h')
      | _ => rfl
  | .cond c a b, e, h, r, he => by
    simp only [evalC] at he ⊢
    split at he
    · exact evalC_mono hC hn he
    · exact evalC_mono hC hn he
    · cases he
  | .block id a, e, h, r, he => by
    simp only [evalC] at he ⊢
    split at he
    · rename_i i e' h' h1
      rw [evalC_mono hC hn h1]; exact he
    · rename_i hne
      rw [evalC_mono hC hn he]
      obtain ⟨x, e', h'⟩ := r
      cases x with
      | exit i => exact absurd he (hne i e' h')
      | _ => rfl
  | .loop l a, e, h, r, he => by
    simp only [evalC] at he ⊢
    exact evalLoop_mono (fun e h r hr => evalC_mono hC hn hr) hn he
  | .exit id, _, _, _, he => he
  | .ret, _, _, _, he => he
  | .bad, _, _, _, he => by simp [evalC] at he

theorem runBody_mono {q : FuncId → Bool} {C C' : Caller} (hC : C.le C') {n n' : Nat} (hn : n ≤ n') {F : AFun} {args : List AV} {h : H} {r : AV × H} (he : runBody q C n F args h = some r) : runBody q C' n' F args h = some r := by
  unfold runBody at he ⊢
  split at he
  · cases he
  · rename_i x e h' hne h1
    rw [evalC_mono hC hn h1]
    cases x with
    | exit i => exact absurd rfl (hne i)
    | _ => exact he
  · cases he
theorem evalF_succ {Φ : Phi} : ∀ n, Caller.le (evalF Φ n) (evalF Φ (n + 1))
  | 0, f, args, h, r, he => by simp [evalF] at he
  | n + 1, f, args, h, r, he => by
    have ih := @evalF_succ Φ n
    rw [evalF] at he ⊢
    split at he
    · cases he
    · exact he
    · split at he
      · rename_i ha
        rw [if_pos ha]
        split at he
        · rename_i v h1 hr
          rw [runBody_mono ih (by omega) hr]; exact he
        · cases he
      · cases he
    · split at he
      · rename_i v h1 hr
        rw [runBody_mono ih (by omega) hr]; exact he
      · cases he
    · exact runBody_mono ih (by omega) he
    · split at he
      · rename_i v h1 hr
        rw [runBody_mono ih (by omega) hr]; exact he
      · cases he
    · split at he
      · rename_i v h1 hr
        rw [runBody_mono ih (by omega) hr]; exact he
      · cases he
theorem evalF_mono {Φ : Phi} {n m : Nat} (hn : n ≤ m) : Caller.le (evalF Φ n) (evalF Φ m) := by
  induction hn with
  | refl => exact fun _ _ _ _ h => h
  | step _ ih => exact fun f args h r hr => evalF_succ _ f args h r (ih f args h r hr)

section
variable {Φ : Phi}
theorem W.mono {f : FuncId} {args : List AV} {h : H} {Q Q' : AV → H → Prop} (hw : W Φ f args h Q) (hq : ∀ v h', Q v h' → Q' v h') : W Φ f args h Q' :=
  let ⟨n, v, h', e, q⟩ := hw; ⟨n, v, h', e, hq v h' q⟩
theorem EvC.mono {c : AC} {e : Env} {h : H} {Q Q' : AX → Env → H → Prop} (hw : EvC Φ c e h Q) (hq : ∀ x e h, Q x e h → Q' x e h) : EvC Φ c e h Q' :=
  let ⟨n, x, e', h', he, q⟩ := hw; ⟨n, x, e', h', he, hq _ _ _ q⟩

theorem EvOps.nil {e : Env} {h : H} {Q : Env → H → Prop} (hq : Q e h) : EvOps Φ [] e h Q := ⟨0, e, h, rfl, hq⟩
/-- One operation, then the rest. -/
theorem EvOps.step {o : AOper} {os : List AOper} {e : Env} {h : H} {Q : Env → H → Prop} {v : AV} {h' : H} {n : Nat} (ho : evalOp (evalF Φ n) o e h = some (v, h')) (hr : EvOps Φ os (e.put o.dst v) h' Q) : EvOps Φ (o :: os) e h Q := by
  obtain ⟨m, e2, h2, h1, hq⟩ := hr
  refine ⟨max n m, e2, h2, ?_, hq⟩
  simp only [evalOps]
  rw [evalOp_mono (evalF_mono (Nat.le_max_left n m)) ho]
  exact evalOps_mono (evalF_mono (Nat.le_max_right n m)) h1
/-- A call, then the rest. -/
theorem EvOps.call {dst : Option Nat} {f : FuncId} {xs : List AOpd} {g : Option (Nat × Bool)} {os : List AOper} {e : Env} {h : H} {Q : Env → H → Prop} {vs : List AV} (hw : (AOper.mk dst (.call f) xs g).wanted e = some true) (hv : vals e xs = some vs)
    (hr : W Φ f vs h fun v h' => EvOps Φ os (e.put dst v) h' Q) : EvOps Φ (⟨dst, .call f, xs, g⟩ :: os) e h Q := by
  obtain ⟨n, v, h', h1, h2⟩ := hr
  exact EvOps.step (n := n) (by simp only [evalOp, hw, hv]; exact h1) h2
/-- An operation that tells yes or no. -/
theorem EvOps.stepB {o : AOper} {os : List AOper} {e : Env} {h : H} {Q : Env → H → Prop} {t : Bool} {h' : H} {n : Nat} (ho : evalOp (evalF Φ n) o e h = some (.b t, h'))
    (h1 : t = true → EvOps Φ os (e.put o.dst (.b true)) h' Q) (h2 : t = false → EvOps Φ os (e.put o.dst (.b false)) h' Q) : EvOps Φ (o :: os) e h Q := by
  cases t with
  | true => exact EvOps.step ho (h1 rfl)
  | false => exact EvOps.step ho (h2 rfl)
/-- The first k operations at once. -/
theorem EvOps.runTo (k : Nat) {os : List AOper} {e : Env} {h : H} {Q : Env → H → Prop} {e' : Env} {h' : H} {n : Nat} (ho : evalOps (evalF Φ n) (os.take k) e h = some (e', h')) (hr : EvOps Φ (os.drop k) e' h' Q) : EvOps Φ os e h Q := by
  have app : ∀ (C : Caller) (l1 l2 : List AOper) (e : Env) (h : H) (e1 : Env) (h1 : H), evalOps C l1 e h = some (e1, h1) → evalOps C (l1 ++ l2) e h = evalOps C l2 e1 h1 := by
    intro C l1
    induction l1 with
    | nil => intro l2 e h e1 h1 he; simp only [evalOps, Option.some.injEq, Prod.mk.injEq] at he; obtain ⟨rfl, rfl⟩ := he; rfl
    | cons o l1 ih =>
      intro l2 e h e1 h1 he
      simp only [evalOps, List.cons_append] at he ⊢
      split at he
      · cases he
      · exact ih _ _ _ _ _ he
  obtain ⟨m, e2, h2, h1, hq⟩ := hr
  refine ⟨max n m, e2, h2, ?_, hq⟩
  have h3 := evalOps_mono (evalF_mono (Nat.le_max_left n m)) ho
  have h4 := evalOps_mono (evalF_mono (Nat.le_max_right n m)) h1
  rw [← List.take_append_drop k os, app _ _ _ _ _ _ _ h3]
  exact h4
/-- Some operations at once. -/
theorem EvOps.run {os : List AOper} {e : Env} {h : H} {Q : Env → H → Prop} {e' : Env} {h' : H} (n : Nat) (ho : evalOps (evalF Φ n) os e h = some (e', h')) (hq : Q e' h') : EvOps Φ os e h Q := ⟨n, e', h', ho, hq⟩

theorem EvC.skip {e : Env} {h : H} {Q : AX → Env → H → Prop} (hq : Q .normal e h) : EvC Φ .skip e h Q := ⟨0, _, e, h, rfl, hq⟩
theorem EvC.ret {e : Env} {h : H} {Q : AX → Env → H → Prop} (hq : Q .ret e h) : EvC Φ .ret e h Q := ⟨0, _, e, h, rfl, hq⟩
theorem EvC.exit {id : Nat} {e : Env} {h : H} {Q : AX → Env → H → Prop} (hq : Q (.exit id) e h) : EvC Φ (.exit id) e h Q := ⟨0, _, e, h, rfl, hq⟩
theorem EvC.reg {keep : List Nat} {os : List AOper} {e : Env} {h : H} {Q : AX → Env → H → Prop} (hr : EvOps Φ os e h fun e' h' => Q .normal (e'.keep keep) h') : EvC Φ (.reg keep os) e h Q := by
  obtain ⟨n, e', h', h1, hq⟩ := hr
  exact ⟨n, _, _, h', by simp only [evalC, h1], hq⟩
theorem EvC.drw {keep : List Nat} {m : Nat} {pre : List Nat} {os : List AOper} {e : Env} {h : H} {Q : AX → Env → H → Prop} (hs : (os.take m).all (fun o => o.k.still Φ.still) = true) (hr : EvOps Φ os e h fun e' h' => Q .normal (e'.keep keep) h') : EvC Φ (.drw keep m pre os) e h Q := by
  obtain ⟨n, e', h', h1, hq⟩ := hr
  exact ⟨n, _, _, h', by simp only [evalC, hs, if_true, h1], hq⟩
/-- A region that draws its order, with a store at the end of what is drawn. -/
def EvT (Φ : Phi) (pre : List Nat) (B : Nat) (Y : Blk) (n0 j p : Nat) (os : List AOper) (e : Env) (h : H) (Q : Env → H → Prop) : Prop := ∃ n e' h', evalOps (evalF Φ n) os e h = some (e', h') ∧ turnRun (evalF Φ n) pre B Y n0 j p os e h ∧ Q e' h'
theorem EvC.drwT {keep : List Nat} {m : Nat} {pre : List Nat} {os : List AOper} {e : Env} {h : H} {Q : AX → Env → H → Prop} (B : Nat) (Y : Blk) {p : Nat} (hs : (os.take m).all (fun o => o.k.still Φ.still) = false) (hm : m = p + 1) (hr : EvT Φ pre B Y h.length 0 p os e h fun e' h' => Q .normal (e'.keep keep) h') : EvC Φ (.drw keep m pre os) e h Q := by
  obtain ⟨n, e', h', h1, h2, hq⟩ := hr
  refine ⟨n, _, _, h', ?_, hq⟩
  simp only [evalC, hs, Bool.false_eq_true, if_false]
  rw [if_pos (.inr ⟨p, B, Y, hm, h2⟩)]
  simp only [h1]
/-- One operation that does the same where the block is turned. -/
theorem EvT.step {pre : List Nat} {B : Nat} {Y : Blk} {n0 j p : Nat} {o : AOper} {os : List AOper} {e : Env} {h : H} {Q : Env → H → Prop} {v : AV} {h' : H} {n : Nat} (ho : evalOp (evalF Φ n) o e h = some (v, h')) (hp : h <+: h') (hi : pre.contains j = true ∨ evalOp (evalF Φ n) o e (h.set B Y) = some (v, h'.set B Y))
    (hr : EvT Φ pre B Y n0 (j + 1) p os (e.put o.dst v) h' Q) : EvT Φ pre B Y n0 j (p + 1) (o :: os) e h Q := by
  obtain ⟨m, e2, h2, h1, ht, hq⟩ := hr
  refine ⟨max n m, e2, h2, ?_, ?_, hq⟩
  · simp only [evalOps]
    rw [evalOp_mono (evalF_mono (Nat.le_max_left n m)) ho]
    exact evalOps_mono (evalF_mono (Nat.le_max_right n m)) h1
  · simp only [turnRun]
    rw [evalOp_mono (evalF_mono (Nat.le_max_left n m)) ho]
    exact ⟨hp, hi.imp id (evalOp_mono (evalF_mono (Nat.le_max_left n m))), turnRun_mono (evalF_mono (Nat.le_max_right n m)) ht⟩
/-- The one that turns it. -/
theorem EvT.turn {pre : List Nat} {B : Nat} {Y : Blk} {n0 j : Nat} {o : AOper} {os : List AOper} {e : Env} {h : H} {Q : Env → H → Prop} {v : AV} {n : Nat} {X : Blk} (hX : h[B]? = some X) (ho1 : X.md = .own) (hY : Y.md = .own) (hl : lims n0 Y.cells = true) (ho : evalOp (evalF Φ n) o e h = some (v, h.set B Y))
    (hr : EvOps Φ os (e.put o.dst v) (h.set B Y) Q) : EvT Φ pre B Y n0 j 0 (o :: os) e h Q := by
  obtain ⟨m, e2, h2, h1, hq⟩ := hr
  refine ⟨max n m, e2, h2, ?_, ?_, hq⟩
  · simp only [evalOps]
    rw [evalOp_mono (evalF_mono (Nat.le_max_left n m)) ho]
    exact evalOps_mono (evalF_mono (Nat.le_max_right n m)) h1
  · simp only [turnRun]
    exact ⟨⟨X, hX, ho1⟩, hY, hl, v, evalOp_mono (evalF_mono (Nat.le_max_left n m)) ho⟩
/-- Operations without memory; loads from other blocks; new blocks; functions of values. -/
theorem EvT.plain {pre : List Nat} {B : Nat} {Y : Blk} {n0 j p : Nat} {dst : Option Nat} {k : K} {xs : List AOpd} {g : Option (Nat × Bool)} {os : List AOper} {e : Env} {h : H} {Q : Env → H → Prop} {v : AV} (ho : evalOp (evalF Φ 0) ⟨dst, k, xs, g⟩ e h = some (v, h)) (hi : evalOp (evalF Φ 0) ⟨dst, k, xs, g⟩ e (h.set B Y) = some (v, h.set B Y))
    (hr : EvT Φ pre B Y n0 (j + 1) p os (e.put dst v) h Q) : EvT Φ pre B Y n0 j (p + 1) (⟨dst, k, xs, g⟩ :: os) e h Q := EvT.step ho (List.prefix_refl _) (.inr hi) hr
theorem evalF_iso {f : FuncId} (hf : (match Φ f with | some (.pure _) => true | some (.code .iso _) => true | _ => false) = true) {n : Nat} {args : List AV} {h h' : H} {v : AV} (he : evalF Φ n f args h = some (v, h')) : h' = h ∧ ∀ h2, evalF Φ n f args h2 = some (v, h2) := by
  cases n with
  | zero => simp [evalF] at he
  | succ n =>
    simp only [evalF] at he ⊢
    split at he
    · cases he
    · split at he
      · rename_i hg; cases he; simp only [hg]; exact ⟨trivial, fun _ => trivial⟩
      · cases he
    · split at he
      · rename_i ha
        split at he
        · rename_i hr
          split at he
          · rename_i hl
            cases he; simp only [ha, hr, hl, if_true]; exact ⟨trivial, fun _ => trivial⟩
          · cases he
        · cases he
      · cases he
    · rename_i hF; simp [hF] at hf
    · rename_i hF; simp [hF] at hf
    · rename_i hF; simp [hF] at hf
    · rename_i hF; simp [hF] at hf
theorem EvT.call {pre : List Nat} {B : Nat} {Y : Blk} {n0 j p : Nat} {dst : Option Nat} {f : FuncId} {xs : List AOpd} {g : Option (Nat × Bool)} {os : List AOper} {e : Env} {h : H} {Q : Env → H → Prop} {vs : List AV} (hf : (match Φ f with | some (.pure _) => true | some (.code .iso _) => true | _ => false) = true) (hw : (AOper.mk dst (.call f) xs g).wanted e = some true) (hv : vals e xs = some vs)
    (hr : W Φ f vs h fun v h' => h' = h → EvT Φ pre B Y n0 (j + 1) p os (e.put dst v) h Q) : EvT Φ pre B Y n0 j (p + 1) (⟨dst, .call f, xs, g⟩ :: os) e h Q := by
  obtain ⟨n, v, h', h1, h2⟩ := hr
  obtain ⟨rfl, h3⟩ := evalF_iso hf h1
  exact EvT.step (n := n) (v := v) (by simp only [evalOp, hw, hv]; exact h1) (List.prefix_refl _) (.inr (by simp only [evalOp, hw, hv]; exact h3 _)) (h2 rfl)
theorem EvC.seq {a b : AC} {e : Env} {h : H} {Q : AX → Env → H → Prop} (hr : EvC Φ a e h fun x e' h' => match x with
    | .normal => EvC Φ b e' h' Q
    | x => Q x e' h') : EvC Φ (.seq a b) e h Q := by
  obtain ⟨n, x, e1, h1, he, hq⟩ := hr
  cases x with
  | normal =>
    obtain ⟨m, x2, e2, h2, he2, hq2⟩ := hq
    refine ⟨max n m, x2, e2, h2, ?_, hq2⟩
    simp only [evalC, evalC_mono (evalF_mono (Nat.le_max_left n m)) (Nat.le_max_left n m) he]
    exact evalC_mono (evalF_mono (Nat.le_max_right n m)) (Nat.le_max_right n m) he2
  | exit id => exact ⟨n, _, e1, h1, by simp only [evalC, he], hq⟩
  | ret => exact ⟨n, _, e1, h1, by simp only [evalC, he], hq⟩
theorem EvC.condT {c : AOpd} {a b : AC} {e : Env} {h : H} {Q : AX → Env → H → Prop} {t : Bool} (hc : c.val e = some (.b t)) (hr : EvC Φ (if t then a else b) e h Q) : EvC Φ (.cond c a b) e h Q := by
  obtain ⟨n, x, e', h', he, hq⟩ := hr
  refine ⟨n, x, e', h', ?_, hq⟩
  cases t <;> simp only [evalC, hc] <;> simpa using he
/-- A decision. -/
theorem EvC.condS {c : AOpd} {a b : AC} {e : Env} {h : H} {Q : AX → Env → H → Prop} {t : Bool} (hc : c.val e = some (.b t)) (h1 : t = true → EvC Φ a e h Q) (h2 : t = false → EvC Φ b e h Q) : EvC Φ (.cond c a b) e h Q := by
  cases t with
  | true => exact EvC.condT hc (h1 rfl)
  | false => exact EvC.condT hc (h2 rfl)
/-- A decision that is known. -/
theorem EvC.condY {c : AOpd} {a b : AC} {e : Env} {h : H} {Q : AX → Env → H → Prop} (hc : c.val e = some (.b true)) (hr : EvC Φ a e h Q) : EvC Φ (.cond c a b) e h Q := EvC.condT hc hr
theorem EvC.condN {c : AOpd} {a b : AC} {e : Env} {h : H} {Q : AX → Env → H → Prop} (hc : c.val e = some (.b false)) (hr : EvC Φ b e h Q) : EvC Φ (.cond c a b) e h Q := EvC.condT hc hr
theorem EvC.block {id : Nat} {a : AC} {e : Env} {h : H} {Q : AX → Env → H → Prop} (hr : EvC Φ a e h fun x e' h' => match x with
    | .exit i => if i = id then Q .normal e' h' else Q (.exit i) e' h'
    | x => Q x e' h') : EvC Φ (.block id a) e h Q := by
  obtain ⟨n, x, e', h', he, hq⟩ := hr
  cases x with
  | exit i =>
    by_cases hi : i = id
    · refine ⟨n, .normal, e', h', by simp only [evalC, he, hi, if_true], by simpa [hi] using hq⟩
    · refine ⟨n, .exit i, e', h', by simp only [evalC, he, hi, if_false], by simpa [hi] using hq⟩
  | normal => exact ⟨n, _, e', h', by simp only [evalC, he], hq⟩
  | ret => exact ⟨n, _, e', h', by simp only [evalC, he], hq⟩
/-- A loop, by what holds at its head and a number that falls. -/
theorem EvC.loop {l : List Nat} {a : AC} {e : Env} {h : H} {Q : AX → Env → H → Prop} (I : Nat → Env → H → Prop) {k : Nat} (h0 : I k (e.keep l) h)
    (hr : ∀ k e h, I k e h → EvC Φ a e h fun x e' h' => match x with
      | .normal => ∃ j, j < k ∧ I j (e'.keep l) h'
      | x => Q x e' h') : EvC Φ (.loop l a) e h Q := by
  have key : ∀ k e h, I k (e.keep l) h → ∃ n x e' h', evalLoop (fun e h => evalC Φ.still (evalF Φ n) n a (e.keep l) h) n e h = some (x, e', h') ∧ Q x e' h' := by
    intro k
    induction k using Nat.strongRecOn with
    | _ k ih =>
      intro e h hI
      obtain ⟨n, x, e1, h1, he, hq⟩ := hr k (e.keep l) h hI
      cases x with
      | normal =>
        obtain ⟨j, hj, hI'⟩ := hq
        obtain ⟨m, x2, e2, h2, he2, hq2⟩ := ih j hj e1 h1 hI'
        refine ⟨max n m + 1, x2, e2, h2, ?_, hq2⟩
        simp only [evalLoop]
        rw [evalC_mono (evalF_mono (by omega : n ≤ max n m + 1)) (by omega) he]
        exact evalLoop_mono (fun e h r hr => evalC_mono (evalF_mono (by omega : m ≤ max n m + 1)) (by omega) hr) (by omega) he2
      | exit id => exact ⟨n + 1, _, e1, h1, by simp only [evalLoop]; rw [evalC_mono (evalF_mono (by omega : n ≤ n + 1)) (by omega) he], hq⟩
      | ret => exact ⟨n + 1, _, e1, h1, by simp only [evalLoop]; rw [evalC_mono (evalF_mono (by omega : n ≤ n + 1)) (by omega) he], hq⟩
  obtain ⟨n, x, e', h', he, hq⟩ := key k e h h0
  exact ⟨n, x, e', h', he, hq⟩

/-- What a body must end with: its results. -/
def Res (F : AFun) (Q : AV → H → Prop) (x : AX) (e : Env) (h : H) : Prop := (∀ id, x ≠ .exit id) ∧ ∃ vs, resVals e h F.res = some vs ∧ Q (pack vs) h
/-- The end. -/
theorem EvC.fin {F : AFun} {e : Env} {h : H} {Q : AV → H → Prop} {vs : List AV} (hv : resVals e h F.res = some vs) (hq : Q (pack vs) h) : EvC Φ .ret e h (Res F Q) := EvC.ret ⟨fun _ e => (by cases e), vs, hv, hq⟩
theorem Res.finR {F : AFun} {e : Env} {h : H} {Q : AV → H → Prop} {vs : List AV} (hv : resVals e h F.res = some vs) (hq : Q (pack vs) h) : Res F Q .ret e h := ⟨fun _ e => (by cases e), vs, hv, hq⟩
theorem Res.fin {F : AFun} {e : Env} {h : H} {Q : AV → H → Prop} {vs : List AV} (hv : resVals e h F.res = some vs) (hq : Q (pack vs) h) : Res F Q .normal e h := ⟨fun _ e => (by cases e), vs, hv, hq⟩
theorem runBody_of {F : AFun} {args : List AV} {h : H} {Q : AV → H → Prop} (hr : EvC Φ F.body (bindArgs 0 args) h (Res F Q)) : ∃ n v h', runBody Φ.still (evalF Φ n) n F args h = some (v, h') ∧ Q v h' := by
  obtain ⟨n, x, e, h', he, hx, vs, hv, hq⟩ := hr
  refine ⟨n, pack vs, h', ?_, hq⟩
  unfold runBody
  rw [he]
  cases x with
  | exit id => exact absurd rfl (hx id)
  | normal => simp only [hv]
  | ret => simp only [hv]
theorem W.full {f : FuncId} {F : AFun} (hf : Φ f = some (.code .full F)) {args : List AV} {h : H} {Q : AV → H → Prop} (hr : EvC Φ F.body (bindArgs 0 args) h (Res F Q)) : W Φ f args h Q := by
  obtain ⟨n, v, h', he, hq⟩ := runBody_of hr
  exact ⟨n + 1, v, h', by rw [evalF, hf]; exact he, hq⟩
theorem W.drop {f : FuncId} {F : AFun} (hf : Φ f = some (.code .drop F)) {args : List AV} {h : H} {Q : AV → H → Prop} (hr : EvC Φ F.body (bindArgs 0 args) h (Res F fun v h' => h <+: h' ∧ v.lim h.length = true ∧ Q v h)) : W Φ f args h Q := by
  obtain ⟨n, v, h', he, hp, hl, hq⟩ := runBody_of hr
  exact ⟨n + 1, v, h, by rw [evalF, hf]; simp only [he]; rw [if_pos ⟨hp, hl⟩], hq⟩
theorem W.iso {f : FuncId} {F : AFun} (hf : Φ f = some (.code .iso F)) {args : List AV} {h : H} {Q : AV → H → Prop} (ha : lims 0 args = true) (hr : EvC Φ F.body (bindArgs 0 args) [] (Res F fun v _ => v.lim 0 = true ∧ Q v h)) : W Φ f args h Q := by
  obtain ⟨n, v, h', he, hl, hq⟩ := runBody_of hr
  exact ⟨n + 1, v, h, by rw [evalF, hf]; simp only [ha, if_true, he, hl], hq⟩
/-- What stands behind a function that is run neatly. -/
def Neat (h : H) (d : Nat) (Q : AV → H → Prop) (v : AV) (h1 : H) : Prop :=
  NeatOk h (reach h.length h1 d [v]) v h1 ∧ Q (v.ren h.length (reach h.length h1 d [v])) (h1.take h.length ++ (reach h.length h1 d [v]).map (renB h.length (reach h.length h1 d [v]) h1))
theorem W.neat {f : FuncId} {F : AFun} {d : Nat} (hf : Φ f = some (.code (.neat d) F)) {args : List AV} {h : H} {Q : AV → H → Prop} (hr : EvC Φ F.body (bindArgs 0 args) h (Res F (Neat h d Q))) : W Φ f args h Q := by
  obtain ⟨n, v, h', he, hn, hq⟩ := runBody_of hr
  exact ⟨n + 1, _, _, by rw [evalF, hf]; simp only [he]; rw [if_pos hn], hq⟩
theorem W.fresh {f : FuncId} {F : AFun} {d : Nat} (hf : Φ f = some (.code (.fresh d) F)) {args : List AV} {h : H} {Q : AV → H → Prop} (hr : EvC Φ F.body (bindArgs 0 args) h (Res F fun v h1 => h <+: h1 ∧ Neat h d Q v h1)) : W Φ f args h Q := by
  obtain ⟨n, v, h', he, hp, hn, hq⟩ := runBody_of hr
  exact ⟨n + 1, _, _, by rw [evalF, hf]; simp only [he]; rw [if_pos ⟨hp, hn⟩], hq⟩
/-- By running it. -/
theorem W.run (n : Nat) {f : FuncId} {args : List AV} {h h' : H} {v : AV} {Q : AV → H → Prop} (he : evalF Φ n f args h = some (v, h')) (hq : Q v h') : W Φ f args h Q := ⟨n, v, h', he, hq⟩
theorem W.pure {f : FuncId} {g : List AV → Option AV} (hf : Φ f = some (.pure g)) {args : List AV} {h : H} {v : AV} (hg : g args = some v) {Q : AV → H → Prop} (hq : Q v h) : W Φ f args h Q := ⟨1, v, h, by rw [evalF, hf]; simp only [hg], hq⟩
end
end Go.V
