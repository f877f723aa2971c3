import Derived.Test.YtemiffhfijlcaaaVExt
import Derived.Test.YtemiffhfijlcaaaVFlt3
set_option linter.unusedSimpArgs false
set_option linter.unusedVariables false
set_option linter.unusedSectionVars false
/-! Rules over a heap that is an old one and a list of new blocks. -/
namespace Go.V
open Go

theorem rd_lt {h : H} {r : Ref} {v : AV} (hr : rd h r = some v) : r.b < h.length := by
  unfold rd at hr
  split at hr
  · rename_i blk hb; exact at_lt hb
  · cases hr
theorem rdn_lt {h : H} {r : Ref} {n : Nat} {l : List AV} (hr : rdn h r n = some l) : r.b < h.length := by
  unfold rdn at hr
  split at hr
  · rename_i blk hb; exact at_lt hb
  · cases hr
theorem rd_app {h : H} {r : Ref} {v : AV} (l : H) (hr : rd h r = some v) : rd (h ++ l) r = some v := by
  have := rd_lt hr
  unfold rd at hr ⊢
  rw [List.getElem?_append_left this]; exact hr
theorem rdn_app {h : H} {r : Ref} {n : Nat} {cs : List AV} (l : H) (hr : rdn h r n = some cs) : rdn (h ++ l) r n = some cs := by
  have := rdn_lt hr
  unfold rdn at hr ⊢
  rw [List.getElem?_append_left this]; exact hr
theorem rd_new (h l : H) (k o : Nat) : rd (h ++ l) ⟨h.length + k, o⟩ = rd l ⟨k, o⟩ := by
  unfold rd
  rw [List.getElem?_append_right (by simp)]
  simp
theorem rdn_new (h l : H) (k o n : Nat) : rdn (h ++ l) ⟨h.length + k, o⟩ n = rdn l ⟨k, o⟩ n := by
  unfold rdn
  rw [List.getElem?_append_right (by simp)]
  simp
theorem wrn_new {h l l' : H} {k o : Nat} {vs : List AV} (hw : wrn l ⟨k, o⟩ vs = some l') : wrn (h ++ l) ⟨h.length + k, o⟩ vs = some (h ++ l') := by
  unfold wrn at hw ⊢
  rw [List.getElem?_append_right (by simp)]
  simp only [Nat.add_sub_cancel_left]
  split at hw
  · rename_i blk hb
    simp only [hb]
    split at hw
    · rename_i hc
      rw [if_pos hc]
      cases hw
      rw [List.set_append_right _ _ (by simp)]
      simp
    · cases hw
  · cases hw
theorem wrn_old {h h' l : H} {r : Ref} {vs : List AV} (hw : wrn h r vs = some h') : wrn (h ++ l) r vs = some (h' ++ l) := by
  unfold wrn at hw ⊢
  split at hw
  · rename_i blk hb
    rw [List.getElem?_append_left (at_lt hb), hb]
    simp only
    split at hw
    · rename_i hc
      rw [if_pos hc]
      cases hw
      rw [List.set_append_left _ _ (at_lt hb)]
    · cases hw
  · cases hw

section
variable {Φ : Phi} {e : Env} {h l : H} {Q : Env → H → Prop} {os : List AOper} {dst : Option Nat} {g : Option (Nat × Bool)}

theorem evalOp_plain {C : Caller} {k : K} {xs : List AOpd} {vs : List AV} {h0 h' : H} {v : AV} (hw : (AOper.mk dst k xs g).wanted e = some true) (hv : vals e xs = some vs) (hk : k.isCall = false) (he : evalK k vs h0 = some (v, h')) : evalOp C ⟨dst, k, xs, g⟩ e h0 = some (v, h') := by
  unfold evalOp
  rw [hw]
  simp only [hv]
  cases k <;> first | exact he | (simp [K.isCall] at hk)

/-- A load from what is new. -/
theorem EvOps.ldL {xs : List AOpd} {k o : Nat} {v : AV} (hw : (AOper.mk dst .ld1 xs g).wanted e = some true) (hx : vals e xs = some [.p (some ⟨h.length + k, o⟩)]) (hr : rd l ⟨k, o⟩ = some v)
    (hq : EvOps Φ os (e.put dst v) (h ++ l) Q) : EvOps Φ (⟨dst, .ld1, xs, g⟩ :: os) e (h ++ l) Q :=
  EvOps.step (n := 0) (evalOp_plain hw hx rfl (by simp only [evalK, rd_new, hr])) hq
theorem EvOps.ldnL {xs : List AOpd} {k o n : Nat} {cs : List AV} (hw : (AOper.mk dst (.ldn n) xs g).wanted e = some true) (hx : vals e xs = some [.p (some ⟨h.length + k, o⟩)]) (hr : rdn l ⟨k, o⟩ n = some cs)
    (hq : EvOps Φ os (e.put dst (.agg cs)) (h ++ l) Q) : EvOps Φ (⟨dst, .ldn n, xs, g⟩ :: os) e (h ++ l) Q :=
  EvOps.step (n := 0) (evalOp_plain hw hx rfl (by simp only [evalK, rdn_new, hr])) hq
/-- A load from what is old. -/
theorem EvOps.ldH {xs : List AOpd} {r : Ref} {v : AV} (hw : (AOper.mk dst .ld1 xs g).wanted e = some true) (hx : vals e xs = some [.p (some r)]) (hr : rd h r = some v)
    (hq : EvOps Φ os (e.put dst v) (h ++ l) Q) : EvOps Φ (⟨dst, .ld1, xs, g⟩ :: os) e (h ++ l) Q :=
  EvOps.step (n := 0) (evalOp_plain hw hx rfl (by simp only [evalK, rd_app l hr])) hq
theorem EvOps.ldnH {xs : List AOpd} {r : Ref} {n : Nat} {cs : List AV} (hw : (AOper.mk dst (.ldn n) xs g).wanted e = some true) (hx : vals e xs = some [.p (some r)]) (hr : rdn h r n = some cs)
    (hq : EvOps Φ os (e.put dst (.agg cs)) (h ++ l) Q) : EvOps Φ (⟨dst, .ldn n, xs, g⟩ :: os) e (h ++ l) Q :=
  EvOps.step (n := 0) (evalOp_plain hw hx rfl (by simp only [evalK, rdn_app l hr])) hq
/-- A store into what is new. -/
theorem EvOps.stL {xs : List AOpd} {k o n : Nat} {u : AV} {l' : H} (hw : (AOper.mk dst (.st n) xs g).wanted e = some true) (hx : vals e xs = some [.p (some ⟨h.length + k, o⟩), u]) (hn : u.cells.length = n) (hr : wrn l ⟨k, o⟩ u.cells = some l')
    (hq : EvOps Φ os (e.put dst (.tup [])) (h ++ l') Q) : EvOps Φ (⟨dst, .st n, xs, g⟩ :: os) e (h ++ l) Q :=
  EvOps.step (n := 0) (evalOp_plain hw hx rfl (by simp only [evalK, hn, if_true, wrn_new hr])) hq
theorem EvOps.stH {xs : List AOpd} {r : Ref} {n : Nat} {u : AV} {h' : H} (hw : (AOper.mk dst (.st n) xs g).wanted e = some true) (hx : vals e xs = some [.p (some r), u]) (hn : u.cells.length = n) (hr : wrn h r u.cells = some h')
    (hq : EvOps Φ os (e.put dst (.tup [])) (h' ++ l) Q) : EvOps Φ (⟨dst, .st n, xs, g⟩ :: os) e (h ++ l) Q :=
  EvOps.step (n := 0) (evalOp_plain hw hx rfl (by simp only [evalK, hn, if_true, wrn_old hr])) hq
/-- A float32 turned into a float64. -/
theorem EvOps.cvtUp {xs : List AOpd} {x : Nat} {h : H} (hw : (AOper.mk dst (.cFlt .f64) xs g).wanted e = some true) (hx : vals e xs = some [.f .f32 x]) (hq : EvOps Φ os (e.put dst (.f .f64 (up x))) h Q) : EvOps Φ (⟨dst, .cFlt .f64, xs, g⟩ :: os) e h Q :=
  EvOps.step (n := 0) (evalOp_plain hw hx rfl (by simp only [evalK, evalP, cFltV, fcvt_up, Option.map_some])) hq
/-- A root turned into a float32. -/
theorem EvOps.cvtRoot {xs : List AOpd} {x : Nat} {h : H} (hw : (AOper.mk dst (.cFlt .f32) xs g).wanted e = some true) (hx : vals e xs = some [.f .f64 (fsqrt .f64 (up x))]) (hq : EvOps Φ os (e.put dst (.f .f32 (root32 x))) h Q) : EvOps Φ (⟨dst, .cFlt .f32, xs, g⟩ :: os) e h Q :=
  EvOps.step (n := 0) (evalOp_plain hw hx rfl (by simp only [evalK, evalP, cFltV, fcvt_root, Option.map_some])) hq
/-- An element's place. -/
theorem EvOps.iaN {xs : List AOpd} {es len cap : Nat} {gr : Option Nat} {k : IntKind} {q : Ref} {i : Nat} {h : H} (hw : (AOper.mk dst (.ia es) xs g).wanted e = some true) (hx : vals e xs = some [.sl (some q) len cap gr, .i k (i : Int)]) (hi : i < len)
    (hq : EvOps Φ os (e.put dst (.p (some (q.add (i * es))))) h Q) : EvOps Φ (⟨dst, .ia es, xs, g⟩ :: os) e h Q :=
  EvOps.step (n := 0) (evalOp_plain hw hx rfl (by simp only [evalK, evalP]; rw [if_pos (by omega)]; simp)) hq
/-- A new block. -/
theorem EvOps.allocL {z : List AV} {k : Nat} (hw : (AOper.mk dst (.alloc z) [] g).wanted e = some true) (hl : l.length = k) (hq : EvOps Φ os (e.put dst (.p (some ⟨h.length + k, 0⟩))) (h ++ (l ++ [⟨z, .own⟩])) Q) : EvOps Φ (⟨dst, .alloc z, [], g⟩ :: os) e (h ++ l) Q :=
  EvOps.step (n := 0) (evalOp_plain hw rfl rfl (by simp only [evalK, List.length_append, hl, List.append_assoc])) hq
theorem EvOps.boxL {xs : List AOpd} {u : AV} {cs : List AV} {k : Nat} (hw : (AOper.mk dst .box xs g).wanted e = some true) (hx : vals e xs = some [u]) (hc : u.cells = cs) (h1 : cs.all AV.one = true) (hl : l.length = k)
    (hq : EvOps Φ os (e.put dst (.p (some ⟨h.length + k, 0⟩))) (h ++ (l ++ [⟨cs, .own⟩])) Q) : EvOps Φ (⟨dst, .box, xs, g⟩ :: os) e (h ++ l) Q :=
  EvOps.step (n := 0) (evalOp_plain hw hx rfl (by simp only [evalK, hc, h1, if_true, List.length_append, hl, List.append_assoc])) hq
end

/-- Memory with nothing in it. -/
def H0 : H := []
section
variable {Φ : Phi} {f : FuncId} {F : AFun} {args : List AV} {h : H} {Q : AV → H → Prop}
/-- A function that forgets what it makes, from a heap with nothing new. -/
theorem W.dropL (hf : Φ f = some (.code .drop F)) (hr : EvC Φ F.body (bindArgs 0 args) (h ++ []) (Res F fun v h' => h <+: h' ∧ v.lim h.length = true ∧ Q v h)) : W Φ f args h Q := W.drop hf (by simpa using hr)
theorem W.isoL (hf : Φ f = some (.code .iso F)) (ha : lims 0 args = true) (hr : EvC Φ F.body (bindArgs 0 args) (H0 ++ []) (Res F fun v _ => v.lim 0 = true ∧ Q v h)) : W Φ f args h Q := W.iso hf ha hr
theorem W.fullL (hf : Φ f = some (.code .full F)) (hr : EvC Φ F.body (bindArgs 0 args) (h ++ []) (Res F Q)) : W Φ f args h Q := W.full hf (by simpa using hr)
end
end Go.V
