import Derived.Test.YtemiffhfijlcaaaVData
import Derived.WalkKit
import Derived.ProofKit
import Derived.OpenShut
import Derived.Carry
import Derived.Deep.Slices
import Derived.SizedLaws
import Derived.JoinedCond
set_option linter.unusedSimpArgs false
set_option linter.unusedVariables false
set_option linter.unusedSectionVars false
/-! From a row's world to the machine's: what the arguments read as, told as abstract values; and back to the row. -/
namespace Go.V
open Go Go.RowKit Go.ChangeShapes Go.WideShapes Go.Deep

/-- A piece of an old block, told. -/
structure Win where
  ren : Ren
  cells : List AV
def hOf (ws : List Win) : H := ws.map fun w => ⟨w.cells, .ro⟩
def ρOf (ws : List Win) : Rho := fun b => (ws[b]?).map Win.ren
def WinOk (W : World) (ρ : Rho) (w : Win) : Prop :=
  ∃ cells ty fr, W.heap[w.ren.c]? = some (.cells cells ty fr) ∧ cells.size = w.ren.sz ∧ ∀ (i : Nat) (u : AV), w.cells[i]? = some u → ∃ y, cells[w.ren.sh + i]? = some y ∧ VR ρ u y ∧ u.one = true
theorem heap_lt {W : World} {c : Nat} {o : Obj} (h : W.heap[c]? = some o) : c < W.heap.size := by
  rcases Nat.lt_or_ge c W.heap.size with h1 | h1
  · exact h1
  · rw [Array.getElem?_eq_none h1] at h; cases h
theorem Sim.init {W : World} {ws : List Win} (hok : ∀ w ∈ ws, WinOk W (ρOf ws) w) : Sim W (ρOf ws) (hOf ws) W := by
  have get : ∀ b n, ρOf ws b = some n → ∃ w, ws[b]? = some w ∧ w.ren = n := fun b n hb => by
    simpa [ρOf] using hb
  refine ⟨Below.refl _ _, fun b n hb => ?_, fun b n blk hb hk hd => ?_, fun b b' n n' blk blk' _ _ hb hb' _ _ hm _ => ?_⟩
  · obtain ⟨w, hw, rfl⟩ := get b n hb
    obtain ⟨cells, ty, fr, h1, _⟩ := hok w (List.mem_of_getElem? hw)
    exact ⟨by simpa [hOf] using (List.getElem?_eq_some_iff.1 hw).1, heap_lt h1⟩
  · obtain ⟨w, hw, rfl⟩ := get b n hb
    obtain ⟨cells, ty, fr, h1, h2, h3⟩ := hok w (List.mem_of_getElem? hw)
    simp only [hOf, List.getElem?_map, hw, Option.map_some, Option.some.injEq] at hk
    subst hk
    exact ⟨cells, ty, fr, h1, h2, h3, fun h => by cases h⟩
  · have ro : ∀ (b : Nat) (blk : Blk), (hOf ws)[b]? = some blk → blk.md = .ro := fun b blk hb => by
      simp only [hOf, List.getElem?_map, Option.map_eq_some_iff] at hb
      obtain ⟨w, _, rfl⟩ := hb
      rfl
    rw [ro b blk hb, ro b' blk' hb'] at hm
    rcases hm with hm | hm <;> cases hm
theorem ρOf_le {ws ws' : List Win} (h : ws <+: ws') : (ρOf ws).le (ρOf ws') := fun b n hb => by
  obtain ⟨t, rfl⟩ := h
  simp only [ρOf, Option.map_eq_some_iff] at hb ⊢
  obtain ⟨w, hw, e⟩ := hb
  exact ⟨w, by rw [List.getElem?_append_left (List.getElem?_eq_some_iff.1 hw).1]; exact hw, e⟩
theorem WinOk.mono {W : World} {ρ ρ' : Rho} (hle : ρ.le ρ') {w : Win} (h : WinOk W ρ w) : WinOk W ρ' w := by
  obtain ⟨cells, ty, fr, h1, h2, h3⟩ := h
  exact ⟨cells, ty, fr, h1, h2, fun i u hi => let ⟨y, a, b, c⟩ := h3 i u hi; ⟨y, a, b.mono hle, c⟩⟩

section
variable {P : Program} {w : World}
/-- Data of this type reads as these cells. -/
def Reads (P : Program) (w : World) (t : TypeId) {α : Type} (c : α → List AV) : Prop :=
  ∀ {H : Type} (enc : TypeId × Value → H) (base : Nat) (sp : Nat → Bool) (held : Bool) (fuel : Nat) (cs : List Value) (x : DataW H × List MemPlace), DataW.trod enc P w base sp held fuel t cs = some x → ∃ y : α, ∀ ρ, VRs ρ (c y) cs
theorem reads_f32 {t : TypeId} (ht : P.underlying t = some (.float .f32)) : Reads P w t cF := by
  intro H enc base sp held fuel cs x h
  cases fuel with
  | zero => simp [DataW.trod] at h
  | succ n =>
    unfold DataW.trod at h
    rw [ht] at h
    match cs, h with
    | [], h => simp at h
    | v :: u :: vs, h => cases v <;> simp at h
    | [v], h =>
      cases v with
      | float k b =>
        simp only [Option.ite_none_right_eq_some] at h
        obtain ⟨⟨hk, _⟩, _⟩ := h
        subst hk
        exact ⟨cn .f32 b, fun ρ => by simp [cF, VRs, VR]⟩
      | _ => simp at h
theorem reads_bool {t : TypeId} (ht : P.underlying t = some .bool) : Reads P w t cB := by
  intro H enc base sp held fuel cs x h
  cases fuel with
  | zero => simp [DataW.trod] at h
  | succ n =>
    unfold DataW.trod at h
    rw [ht] at h
    match cs, h with
    | [], h => simp at h
    | v :: u :: vs, h => cases v <;> simp at h
    | [v], h =>
      cases v with
      | bool b => exact ⟨b, fun ρ => by simp [cB, VRs, VR]⟩
      | _ => simp at h
theorem reads_i64 {t : TypeId} (ht : P.underlying t = some (.int .i64)) : Reads P w t cI := by
  intro H enc base sp held fuel cs x h
  cases fuel with
  | zero => simp [DataW.trod] at h
  | succ n =>
    unfold DataW.trod at h
    rw [ht] at h
    match cs, h with
    | [], h => simp at h
    | v :: u :: vs, h => cases v <;> simp at h
    | [v], h =>
      cases v with
      | int k b =>
        simp only [Option.ite_none_right_eq_some] at h
        obtain ⟨⟨hk, _⟩, _⟩ := h
        subst hk
        exact ⟨b, fun ρ => by simp [cI, VRs, VR]⟩
      | _ => simp at h
theorem mapM_mem {α β : Type} {f : α → Option β} : ∀ {l : List α} {ys : List β}, l.mapM f = some ys → ∀ x ∈ l, ∃ y, f x = some y
  | [], ys, _, x, hx => by cases hx
  | a :: l, ys, h, x, hx => by
    simp only [List.mapM_cons, Option.pure_def, Option.bind_eq_bind, Option.bind_eq_some_iff] at h
    obtain ⟨y, hy, zs, hz, _⟩ := h
    rcases List.mem_cons.1 hx with rfl | hx
    · exact ⟨y, hy⟩
    · exact mapM_mem hz x hx
theorem trod_fields {H : Type} {enc : TypeId × Value → H} {base : Nat} {sp : Nat → Bool} {held : Bool} {fuel : Nat} {t : TypeId} {fs : Array Field} {cs : List Value} {x : DataW H × List MemPlace} (ht : P.underlying t = some (.struct fs)) (h : DataW.trod enc P w base sp held fuel t cs = some x) :
    cs.length = P.cellsOf t ∧ ∃ n, ∀ f ∈ fs.toList, ∃ y, DataW.trod enc P w base sp held n f.type ((cs.drop f.offset).take (P.cellsOf f.type)) = some y := by
  cases fuel with
  | zero => simp [DataW.trod] at h
  | succ n =>
    unfold DataW.trod at h
    rw [ht] at h
    simp only at h
    split at h
    · rename_i hl
      rw [Option.map_eq_some_iff] at h
      obtain ⟨ys, hys, _⟩ := h
      exact ⟨hl, n, fun f hf => mapM_mem hys f hf⟩
    · cases h
/-- A vector's. -/
theorem reads_vec {t : TypeId} {f0 f1 f2 : Field} (ht : P.underlying t = some (.struct #[f0, f1, f2])) (hc : P.cellsOf t = 3) (o0 : f0.offset = 0) (o1 : f1.offset = 1) (o2 : f2.offset = 2)
    (t0 : P.underlying f0.type = some (.float .f32)) (t1 : P.underlying f1.type = some (.float .f32)) (t2 : P.underlying f2.type = some (.float .f32)) (c0 : P.cellsOf f0.type = 1) (c1 : P.cellsOf f1.type = 1) (c2 : P.cellsOf f2.type = 1) : Reads P w t cV := by
  intro H enc base sp held fuel cs x h
  obtain ⟨hl, n, hf⟩ := trod_fields ht h
  rw [hc] at hl
  match cs, hl with
  | [a, b, c], _ =>
    obtain ⟨y0, h0⟩ := hf f0 (by simp)
    obtain ⟨y1, h1⟩ := hf f1 (by simp)
    obtain ⟨y2, h2⟩ := hf f2 (by simp)
    rw [o0, c0] at h0; rw [o1, c1] at h1; rw [o2, c2] at h2
    obtain ⟨z0, e0⟩ := reads_f32 t0 enc base sp held n _ _ h0
    obtain ⟨z1, e1⟩ := reads_f32 t1 enc base sp held n _ _ h1
    obtain ⟨z2, e2⟩ := reads_f32 t2 enc base sp held n _ _ h2
    refine ⟨⟨z0, z1, z2⟩, fun ρ => ?_⟩
    have := e0 ρ; have := e1 ρ; have := e2 ρ
    simp_all [cV, cF, VRs]
/-- A slice that came in: its window behind those that are told already. -/
theorem slice_in {H : Type} {enc : TypeId × Value → H} {base b0 : Nat} {sp : Nat → Bool} {held : Bool} {fuel : Nat} {t e : TypeId} {v : Value} {x : DataW H × List MemPlace} {r : Reach} {α : Type} {c : α → List AV} {es : Nat} [hc : Cells c es]
    (ht : P.underlying t = some (.slice e)) (he : P.cellsOf e = es) (hR : Reads P w e c) (hok : Cell.ok P w r b0 t v) (h : DataW.trod enc P w base sp held fuel t [v] = some x) (ws : List Win) (hws : ∀ k ∈ ws, WinOk w (ρOf ws) k) :
    ∃ (ws' : List Win) (xs : List α) (q : Option Ref) (cap : Nat), ws <+: ws' ∧ (∀ k ∈ ws', WinOk w (ρOf ws') k) ∧ VR (ρOf ws') (.sl q xs.length cap none) v ∧ Vw (hOf ws') c es (.sl q xs.length cap none) xs ∧ xs.length < 2 ^ 63 := by
  rcases open_slice ht h with ⟨hcs, _⟩ | ⟨a, len, cap, m, n, D, Pl, hcs, _, hl, hm, hmm, _, hx⟩
  · simp only [List.cons.injEq, and_true] at hcs
    subst hcs
    exact ⟨ws, [], none, 0, List.prefix_refl _, hws, by simp [VR], Vw.nil, by simp⟩
  · simp only [List.cons.injEq, and_true] at hcs
    subst hcs
    simp only [Cell.ok, ht] at hok
    obtain ⟨_, _, hlets, hspot, row, csz, hshape, _⟩ := hok
    have hlm : len ≤ m := by rw [hmm]; split <;> omega
    -- the elements
    have hel : ∀ i, i < len → ∃ y : α, ∃ cs', w.cells? base (a.add (i * es)) es = some cs' ∧ ∀ ρ, VRs ρ (c y) cs' := fun i hi => by
      obtain ⟨cs', h1, h2⟩ := hx i (by omega)
      obtain ⟨y, hy⟩ := hR enc base sp held n cs' _ h2
      rw [he] at h1
      exact ⟨y, cs', h1, hy⟩
    obtain ⟨blk, hblk⟩ : ∃ cells ty fr, w.heap[a.block]? = some (.cells cells ty fr) := by
      unfold World.shape? at hshape
      split at hshape
      · rename_i cc el fr hh
        exact ⟨_, _, _, hh⟩
      · cases hshape
    obtain ⟨ty, fr, hblk⟩ := hblk
    by_cases hlen : len = 0
    · subst hlen
      refine ⟨ws ++ [⟨⟨a.block, a.off, blk.size⟩, []⟩], [], some ⟨ws.length, 0⟩, cap, List.prefix_append _ _, fun k hk => ?_, ?_, ?_, by simp⟩
      · rcases List.mem_append.1 hk with hk | hk
        · exact (hws k hk).mono (ρOf_le (List.prefix_append _ _))
        · simp only [List.mem_singleton] at hk
          subst hk
          exact ⟨blk, ty, fr, hblk, rfl, fun i u hi => by simp at hi⟩
      · simp only [VR]
        exact ⟨⟨⟨a.block, a.off, blk.size⟩, by simp [ρOf], by cases a; simp_all⟩, by first | rfl | trivial, by first | rfl | trivial⟩
      · exact Vw.of_block (xs := ([] : List α)) (sp := []) (md := .ro) (by simp [hOf]) (by decide)
    · obtain ⟨y0, _⟩ := hel 0 (by omega)
      let X : Nat → α := fun i => if hi : i < len then Classical.choose (hel i hi) else y0
      have hX : ∀ i (hi : i < len), ∃ cs', w.cells? base (a.add (i * es)) es = some cs' ∧ ∀ ρ, VRs ρ (c (X i)) cs' := fun i hi => by
        simp only [X, dif_pos hi]
        exact Classical.choose_spec (hel i hi)
      let xs : List α := (List.range len).map X
      have hxl : xs.length = len := by simp [xs]
      have hcell : ∀ (j : Nat) (u : AV), (fl c xs)[j]? = some u → ∃ y, blk[a.off + j]? = some y ∧ (∀ ρ, VR ρ u y) ∧ u.one = true := by
        intro j u hj
        have hp := hc.pos
        have hjl : j < len * es := by
          have := (List.getElem?_eq_some_iff.1 hj).1
          rwa [fl_length, hxl] at this
        have hi : j / es < len := (Nat.div_lt_iff_lt_mul hp).2 hjl
        have hr : j % es < es := Nat.mod_lt _ hp
        have hje : j / es * es + j % es = j := by rw [Nat.mul_comm]; exact Nat.div_add_mod j es
        obtain ⟨cs', h1, h2⟩ := hX (j / es) hi
        obtain ⟨_, hcl, hcv⟩ := World.cells?_some h1
        have e1 : (c (X (j / es)))[j % es]? = some u := by
          have h3 := fl_at (c := c) (xs := xs) (i := j / es) (by rw [hxl]; exact hi)
          have h4 : xs[j / es]'(by rw [hxl]; exact hi) = X (j / es) := by simp [xs]
          rw [h4] at h3
          rw [← h3, List.getElem?_take_of_lt hr, List.getElem?_drop, hje]
          exact hj
        obtain ⟨y, hy, _⟩ := (h2 (fun _ => none)).get _ u e1
        have hy2 := hcv (j % es) hr
        rw [hy] at hy2
        have e2 : ((a.add (j / es * es)).add (j % es)) = ⟨a.block, a.off + j, none⟩ := by
          rw [add_add, hje]
          unfold Addr.add
          split
          · rename_i h0; subst h0; cases a; simp_all
          · rfl
        rw [e2] at hy2
        simp only [World.cell?, hblk] at hy2
        refine ⟨y, by simpa using hy2, fun ρ => ?_, ?_⟩
        · obtain ⟨y', hy', hr'⟩ := (h2 ρ).get _ u e1
          rw [hy] at hy'; cases hy'; exact hr'
        · have := hc.one (X (j / es))
          rw [List.all_eq_true] at this
          exact this u (List.mem_of_getElem? e1)
      refine ⟨ws ++ [⟨⟨a.block, a.off, blk.size⟩, fl c xs⟩], xs, some ⟨ws.length, 0⟩, cap, List.prefix_append _ _, fun k hk => ?_, ?_, ?_, by rw [hxl]; unfold maxLen at hm; omega⟩
      · rcases List.mem_append.1 hk with hk | hk
        · exact (hws k hk).mono (ρOf_le (List.prefix_append _ _))
        · simp only [List.mem_singleton] at hk
          subst hk
          exact ⟨blk, ty, fr, hblk, rfl, fun i u hi => let ⟨y, h1, h2, h3⟩ := hcell i u hi; ⟨y, h1, h2 _, h3⟩⟩
      · simp only [VR]
        exact ⟨⟨⟨a.block, a.off, blk.size⟩, by simp [ρOf], by cases a; simp_all⟩, hxl, by first | rfl | trivial⟩
      · exact Vw.of_block (sp := []) (md := .ro) (by simp [hOf]) (by decide)
theorem hOf_app {ws ws' : List Win} (h : ws <+: ws') : ∃ k, hOf ws' = hOf ws ++ k := by
  obtain ⟨t, rfl⟩ := h
  exact ⟨hOf t, by simp [hOf]⟩

/-! Back to the row. -/
theorem trodAll_stays {H : Type} {enc : TypeId × Value → H} {W W' : World} {sp : Nat → Bool} (hl : laidOutB P = true) : ∀ {ts : List TypeId} {vs : List Value} {ds : List (DataW H)} {ps : List MemPlace}, (∀ t ∈ ts, P.readableRec t = true ∧ t < P.types.size) → DataW.TrodAll enc P W 0 (fun _ => true) true ts vs ds ps →
    (∀ p ∈ ps, W.sameAt W' p) → (∀ p ∈ ps, sp p.block = true) → DataW.TrodAll enc P W' 0 sp true ts vs ds ps
  | [], [], [], ps, _, h, _, _ => h
  | t :: ts, v :: vs, d :: ds, ps, hr, h, hs, hsp => by
    obtain ⟨p, q, h1, h2, rfl⟩ := h
    exact ⟨p, q, WideElems.Trod_stays hl (hr t (by simp)).1 (hr t (by simp)).2 h1 (fun x hx => hs x (List.mem_append.2 (.inl hx))) (fun x hx => hsp x (List.mem_append.2 (.inl hx))),
      trodAll_stays hl (fun t ht => hr t (by simp [ht])) h2 (fun x hx => hs x (List.mem_append.2 (.inr hx))) (fun x hx => hsp x (List.mem_append.2 (.inr hx))), rfl⟩
/-- A law's result: true, and all that was there is as it was. -/
theorem law_post {H : Type} {enc : TypeId × Value → H} {f : Func} {s : ChangeSpec} {W W' : World} {args : Array Value} {ds gs : List (DataW H)} {before : List MemPlace} {tb : TypeId}
    (hl : laidOutB P = true) (hr : ∀ t ∈ f.params.toList, P.readableRec t = true ∧ t < P.types.size) (hv : s.vars = []) (hrt : f.resultTypes = #[tb]) (htb : P.underlying tb = some .bool)
    (hW : DataW.Whole enc P f.params.toList s.vars false W args.toList ds gs before) (hs : ds.length = f.params.size → s.fn H ds = { results := [.lit (.bool true)], args := ds }) (hb : Below W.heap.size W W') :
    s.post enc P f false true false false W args (.bool true) W' := by
  have hW' := hW
  have hlt : ∀ p ∈ before, p.block < W.heap.size := fun p hp => by simpa using hW'.lt p hp
  obtain ⟨p, q, hA, hV, hpq, hz, hn⟩ := hW
  rw [hv] at hV
  obtain ⟨hgs, hq⟩ := trodVars_none hV
  subst hgs hq
  have hlen : ∀ {ts : List TypeId} {vs : List Value} {ds : List (DataW H)} {ps : List MemPlace}, DataW.TrodAll enc P W 0 (fun _ => true) true ts vs ds ps → ds.length = ts.length := by
    intro ts
    induction ts with
    | nil => intro vs ds ps h; match vs, ds, h with | [], [], _ => rfl
    | cons t ts ih => intro vs ds ps h; match vs, ds, h with | v :: vs, d :: ds, h => obtain ⟨_, _, _, h2, _⟩ := h; simp [ih h2]
  have e := hs (by have := hlen hA; simpa using this)
  have hsp : ∀ sp : Nat → Bool, (∀ p ∈ before, sp p.block = true) → DataW.TrodAll enc P W' 0 sp true f.params.toList args.toList ds p := fun sp h => by
    have hpb : ∀ x ∈ p, x ∈ before := fun x hx => by rw [hpq]; simp [hx]
    exact trodAll_stays hl hr hA (fun x hx => hb.same (hlt x (hpb x hx))) (fun x hx => h x (hpb x hx))
  have e' : s.fn H (ds ++ []) = { results := [.lit (.bool true)], args := ds } := by rw [List.append_nil]; exact e
  have hpost : ∀ (b : Nat) (sp : Nat → Bool) (hd : Bool), DataW.TrodAll enc P W' b sp hd f.resultTypes.toList ((Value.bool true).resultList f.resultTypes.size) (s.fn H (ds ++ [])).results [] := fun b sp hd => by
    rw [e', hrt]
    exact trodAll_cons_mk (shut_bool htb _) trodAll_mk0
  have hold : ∀ p ∈ before, (fun b => decide (b < W.heap.size)) p.block = true := fun p hp => by simpa using hlt p hp
  refine ⟨ds, [], before, [], p, [], hW', hpost _ _ _, by rw [e']; exact hsp _ hold, by rw [hv, e']; rfl, World.keptBut_mono (fun x hx => ⟨hx, ?_⟩) (hb.frame (· ∈ before)), fun _ => ?_⟩
  · rw [hpq] at hx; simpa using hx
  · refine ⟨ok_one hrt rfl (okWide_bool_mk htb _), _, _, ([] ++ p) ++ [], ⟨[] ++ p, [], trodAll_append (hsp _ (fun _ _ => rfl)) (hpost _ _ _), (show DataW.TrodVars enc P W' (fun _ => true) s.vars [] [] by rw [hv]; rfl), rfl, ?_, ?_⟩, ?_⟩
    · intro b off hp
      have hp' : MemPlace.cell b off ∈ before := by rw [hpq]; simpa using hp
      rw [hb.frozen (hlt _ hp')]
      exact hz b off hp'
    · intro ha; cases ha
    · intro x hx _
      rw [hpq]; simpa using hx
/-- A call that the machine answers. -/
theorem law_calls {Φ : Phi} (hmix : P.follows .mixedOrders = true) (hΦ : ∀ f m, Φ f = some m → MeansOk P f m) {f : FuncId} {F : AFun} (hf : Φ f = some (.code .full F)) {ws : List Win} {W0 : World} (hws : ∀ k ∈ ws, WinOk W0 (ρOf ws) k) {avs : List AV} {args : Array Value} (hv : VRs (ρOf ws) avs args.toList)
    (hw : V.W Φ f avs (hOf ws) fun v _ => v = .b true) : Calls P f args W0 fun e W' => e = .returned (.bool true) ∧ Below W0.heap.size W0 W' := by
  obtain ⟨n, v, h', he, rfl⟩ := hw
  cases n with
  | zero => simp [evalF] at he
  | succ n =>
    simp only [evalF, hf] at he
    obtain ⟨_, h2⟩ := body_sound (evalF_sound hmix hΦ n) (evalF_still Φ n) hmix (hΦ f _ hf) he W0 (ρOf ws) W0 args (Sim.init hws) hv
    refine Calls.mono h2 fun e W' hh => ?_
    obtain ⟨x, ρ', rfl, hx, S', G'⟩ := hh
    exact ⟨by rw [hx.inv_b], S'.below⟩
end
end Go.V
