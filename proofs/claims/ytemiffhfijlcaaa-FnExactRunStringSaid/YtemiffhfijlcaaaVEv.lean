import Derived.Test.YtemiffhfijlcaaaVHeap
set_option linter.unusedSimpArgs false
set_option linter.unusedVariables false
set_option linter.unusedSectionVars false
/-! The small code, and what it computes. -/
namespace Go.V
open Go

/-- What an operation does, its operands apart. -/
inductive K where
  | mov | pick | ld1 | ldn (n : Nat) | st (n : Nat)
  | fa (off : Nat) | ia (es : Nat) | iaa (len es : Nat) | fld1 (off : Nat) | fldn (off n : Nat) | ixA1 (len es : Nat) | ixAn (len es : Nat) | ixS
  | bin (op : BinOp) | eqB (ne : Bool) | eqP (ne : Bool) | eqSl (ne : Bool) | eqFn (ne : Bool) | not | neg | xorU
  | cInt (k : IntKind) | cFlt (k : FloatKind) | cStr | cB2S
  | alloc (z : List AV) | box | bld (z : List AV) (ps : List (Nat × Nat)) | bs (es n : Nat) (z : List AV) (ps : List (Nat × Nat)) | mk (es bytes : Nat) (z : List AV)
  | slS (es : Nat) (lo hi mx : Bool) | slStr (lo hi : Bool)
  | len | lenS | lenC (n : Nat) | app (es bytes : Nat) | cpy (es : Nat) | mm (isMax : Bool)
  | nilc | ext (i : Nat) | mkf (f : FuncId) | mki (t : TypeId)
  | call (f : FuncId) | callv
  deriving Inhabited

/-- An operand. -/
inductive AOpd where
  | t (n : Nat)
  | c (v : AV)
  deriving Inhabited

structure AOper where
  dst : Option Nat
  k : K
  xs : List AOpd
  guard : Option (Nat × Bool)
  deriving Inhabited

/-- Code. 'reg' keeps the slots named; in 'drw' the first operations, m in number, stand in any order that their grounds allow. -/
inductive AC where
  | skip
  | reg (keep : List Nat) (ops : List AOper)
  | drw (keep : List Nat) (m : Nat) (pre : List Nat) (ops : List AOper)
  | seq (a b : AC)
  | cond (c : AOpd) (a b : AC)
  | block (id : Nat) (a : AC)
  | loop (keep : List Nat) (a : AC)
  | exit (id : Nat)
  | ret
  | bad
  deriving Inhabited

inductive AX where
  | normal | exit (id : Nat) | ret
  deriving DecidableEq

abbrev Env := List (Nat × AV)
def Env.get : Env → Nat → Option AV
  | [], _ => none
  | (k, v) :: e, n => if k = n then some v else Env.get e n
def Env.put (e : Env) : Option Nat → AV → Env
  | none, _ => e
  | some d, v => (d, v) :: e
def Env.keep (e : Env) : List Nat → Env
  | [] => []
  | n :: ns => match e.get n with
    | some v => (n, v) :: e.keep ns
    | none => e.keep ns

def AOpd.val (e : Env) : AOpd → Option AV
  | .t n => e.get n
  | .c v => some v
def vals (e : Env) : List AOpd → Option (List AV)
  | [] => some []
  | x :: xs => match x.val e with
    | none => none
    | some v => match vals e xs with
      | none => none
      | some vs => some (v :: vs)

/-- Cells of a block, laid over with others from a place on. -/
def splice (l : List AV) (o : Nat) (vs : List AV) : List AV := l.take o ++ vs ++ l.drop (o + vs.length)
def rd (h : H) (r : Ref) : Option AV := match h[r.b]? with
  | some blk => if blk.md = .dead then none else blk.cells[r.o]?
  | none => none
def rdn (h : H) (r : Ref) (n : Nat) : Option (List AV) := match h[r.b]? with
  | some blk => if blk.md = .dead then none else if r.o + n ≤ blk.cells.length then some ((blk.cells.drop r.o).take n) else none
  | none => none
def wrn (h : H) (r : Ref) (vs : List AV) : Option H := match h[r.b]? with
  | some blk => if blk.md = .own ∧ r.o + vs.length ≤ blk.cells.length ∧ vs.all AV.one = true then some (h.set r.b ⟨splice blk.cells r.o vs, .own⟩) else none
  | none => none

def ibin (op : BinOp) (k : IntKind) (a b : Int) : Option AV :=
  match op with
  | .add => some (.i k (k.wrap (a + b)))
  | .sub => some (.i k (k.wrap (a - b)))
  | .mul => some (.i k (k.wrap (a * b)))
  | .quo => if b = 0 then none else some (.i k (k.wrap (a.tdiv b)))
  | .rem => if b = 0 then none else some (.i k (a.tmod b))
  | .and => some (.i k (k.wrap (BitVec.ofInt k.bits a &&& BitVec.ofInt k.bits b).toNat))
  | .or => some (.i k (k.wrap (BitVec.ofInt k.bits a ||| BitVec.ofInt k.bits b).toNat))
  | .xor => some (.i k (k.wrap (BitVec.ofInt k.bits a ^^^ BitVec.ofInt k.bits b).toNat))
  | .andNot => some (.i k (k.wrap (BitVec.ofInt k.bits a &&& ~~~BitVec.ofInt k.bits b).toNat))
  | .eql => some (.b (a == b))
  | .neq => some (.b (a != b))
  | .lss => some (.b (a < b))
  | .leq => some (.b (a ≤ b))
  | .gtr => some (.b (a > b))
  | .geq => some (.b (a ≥ b))
  | _ => none
def ishift (op : BinOp) (k : IntKind) (a b : Int) : Option AV :=
  if b < 0 then none else
  match op with
  | .shl => some (.i k (k.wrap (a * 2 ^ (min b.toNat k.bits))))
  | .shr => some (.i k (a.fdiv (2 ^ (min b.toNat k.bits))))
  | _ => none
def fbin (op : BinOp) (k : FloatKind) (a b : Nat) : Option AV :=
  match op with
  | .add | .sub | .mul | .quo => some (.f k (fop op k a b))
  | _ => (fcmp op k a b).map .b
def sbin (op : BinOp) (x y : ByteArray) : Option AV :=
  let eq := x.toList == y.toList
  let lt := Op.bytesLess x.toList y.toList
  match op with
  | .add => if x.size + y.size ≤ 9223372036854775807 then some (.s (x ++ y)) else none
  | .eql => some (.b eq)
  | .neq => some (.b !eq)
  | .lss => some (.b lt)
  | .leq => some (.b (lt || eq))
  | .gtr => some (.b !(lt || eq))
  | .geq => some (.b !lt)
  | _ => none
def isShift : BinOp → Bool
  | .shl | .shr => true
  | _ => false
def binV (op : BinOp) : AV → AV → Option AV
  | .i k a, .i k' b => if isShift op then ishift op k a b else if k = k' then ibin op k a b else none
  | .f k a, .f k' b => if k = k' then fbin op k a b else none
  | .s a, .s b => sbin op a b
  | _, _ => none
def cIntV (k : IntKind) : AV → Option AV
  | .i _ n => some (.i k (k.wrap n))
  | .f s b => match (s.decode b).toInt .zero with
    | some n => if k.min ≤ n ∧ n ≤ k.max then some (.i k n) else none
    | none => none
  | _ => none
def cFltV (k : FloatKind) : AV → Option AV
  | .i _ n => some (.f k (fofInt k n))
  | .f s b => (fcvt s b k).map (.f k)
  | _ => none

/-- Parts laid into cells: where, how many. -/
def lay (z : List AV) : List (Nat × Nat) → List AV → Option (List AV)
  | [], [] => some z
  | (o, n) :: ps, v :: vs => if v.cells.length = n ∧ o + n ≤ z.length then lay (splice z o v.cells) ps vs else none
  | _, _ => none
def bytesOf : List AV → Option ByteArray
  | [] => some ByteArray.empty
  | .i .u8 n :: vs => (bytesOf vs).map fun s => ⟨#[UInt8.ofNat n.toNat]⟩ ++ s
  | _ => none
def zeros (n : Nat) (z : List AV) : List AV := (List.range (n * z.length)).map fun i => z.getD (i % z.length) .nilI
/-- The bounds of a slice: low, high, max. -/
def bnds (len cap : Nat) : Bool → Bool → Bool → List AV → Option (Nat × Nat × Nat)
  | false, false, false, [] => some (0, len, cap)
  | true, false, false, [.i _ l] => if 0 ≤ l ∧ l ≤ len then some (l.toNat, len, cap) else none
  | false, true, false, [.i _ h] => if 0 ≤ h ∧ h ≤ cap then some (0, h.toNat, cap) else none
  | true, true, false, [.i _ l, .i _ h] => if 0 ≤ l ∧ l ≤ h ∧ h ≤ cap then some (l.toNat, h.toNat, cap) else none
  | true, true, true, [.i _ l, .i _ h, .i _ m] => if 0 ≤ l ∧ l ≤ h ∧ h ≤ m ∧ m ≤ cap then some (l.toNat, h.toNat, m.toNat) else none
  | false, true, true, [.i _ h, .i _ m] => if 0 ≤ h ∧ h ≤ m ∧ m ≤ cap then some (0, h.toNat, m.toNat) else none
  | _, _, _, _ => none
def Ref.add (r : Ref) (n : Nat) : Ref := ⟨r.b, r.o + n⟩
def srcCells (h : H) (es : Nat) : AV → Option (Nat × List AV)
  | .sl none 0 0 _ => some (0, [])
  | .sl (some r) n _ _ => (rdn h r (n * es)).map fun l => (n, l)
  | _ => none
def mmV (isMax : Bool) : AV → AV → Option AV
  | .i k a, .i k' b => if k = k' then some (.i k (if isMax then (if b > a then b else a) else (if b < a then b else a))) else none
  | .f k a, .f k' b => if k = k' then some (.f k (fext isMax k a b)) else none
  | _, _ => none
def mmL (isMax : Bool) (x : AV) : List AV → Option AV
  | [] => some x
  | y :: ys => match mmV isMax x y with
    | none => none
    | some z => mmL isMax z ys
def appV (h : H) (es bytes : Nat) (r : Option Ref) (len cap : Nat) (gr : Option Nat) (n : Nat) (new : List AV) : Option (AV × H) :=
  if es = 0 then none else
  if len + n ≤ cap then
    if n = 0 then some (.sl r len cap gr, h) else
    match r with
    | none => none
    | some r => match wrn h (r.add (len * es)) new with
      | none => none
      | some h' => some (.sl (some r) (len + n) cap gr, h')
  else if 140737488355328 < (len + n) * bytes ∨ 4611686018427387904 < len + n then none else
    match gr, r with
    | none, none => if len = 0 ∧ new.all AV.one = true then some (.sl (some ⟨h.length, 0⟩) n n (some es), h ++ [⟨new, .own⟩]) else none
    | none, some r => match rdn h r (len * es) with
      | none => none
      | some old => if new.all AV.one = true then some (.sl (some ⟨h.length, 0⟩) (len + n) (len + n) (some es), h ++ [⟨old ++ new, .own⟩]) else none
    | some es', some r => if es' ≠ es then none else match h[r.b]? with
      | none => none
      | some blk => match rdn h r (len * es) with
        | none => none
        | some old => if blk.md = .own ∧ new.all AV.one = true then some (.sl (some ⟨h.length, 0⟩) (len + n) (len + n) (some es), h.set r.b ⟨[], .dead⟩ ++ [⟨old ++ new, .own⟩]) else none
    | some _, none => none

def cpyV (h : H) (es : Nat) (r : Option Ref) (dl sn : Nat) (new : List AV) : Option (AV × H) :=
  if dl = 0 ∨ sn = 0 then some (.i .i64 0, h) else match r with
    | none => none
    | some r => match wrn h r (new.take (min sn dl * es)) with
      | some h' => some (.i .i64 (min sn dl : Nat), h')
      | none => none
/-- What an operation yields that reads no memory. -/
def evalP : K → List AV → Option AV
  | .mov, [x] => some x
  | .pick, [.b c, a, b] => some (if c then a else b)
  | .fa off, [.p (some r)] => some (.p (some (r.add off)))
  | .ia es, [.sl (some r) len _ _, .i _ n] => if 0 ≤ n ∧ n < len then some (.p (some (r.add (n.toNat * es)))) else none
  | .iaa len es, [.p (some r), .i _ n] => if 0 ≤ n ∧ n < len then some (.p (some (r.add (n.toNat * es)))) else none
  | .fld1 off, [.agg cs] => cs[off]?
  | .fldn off n, [.agg cs] => if off + n ≤ cs.length then some (.agg ((cs.drop off).take n)) else none
  | .ixA1 len es, [.agg cs, .i _ n] => if 0 ≤ n ∧ n < len then cs[n.toNat * es]? else none
  | .ixAn len es, [.agg cs, .i _ n] => if 0 ≤ n ∧ n < len ∧ n.toNat * es + es ≤ cs.length then some (.agg ((cs.drop (n.toNat * es)).take es)) else none
  | .ixS, [.s s, .i _ n] => if 0 ≤ n then match s[n.toNat]? with
    | some x => some (.i .u8 x.toNat)
    | none => none else none
  | .bin op, [x, y] => binV op x y
  | .eqB ne, [.b x, .b y] => some (.b (if ne then x != y else x == y))
  | .eqP ne, [.p x, .p none] => some (.b (if ne then x.isSome else x.isNone))
  | .eqP ne, [.p none, .p (some _)] => some (.b ne)
  | .eqP ne, [.p (some r), .p (some r')] => if r.b = r'.b then some (.b (if ne then r.o != r'.o else r.o == r'.o)) else none
  | .eqSl ne, [.sl r _ _ _, .sl none _ _ _] => some (.b (if ne then r.isSome else r.isNone))
  | .eqFn ne, [.nilF, .nilF] => some (.b (!ne))
  | .eqFn ne, [.fn _ _, .nilF] => some (.b ne)
  | .not, [.b x] => some (.b (!x))
  | .neg, [.i k n] => some (.i k (k.wrap (0 - n)))
  | .neg, [.f k x] => some (.f k (fneg k x))
  | .cInt k, [x] => cIntV k x
  | .cFlt k, [x] => cFltV k x
  | .cStr, [.s s] => some (.s s)
  | .bld z ps, vs => (lay z ps vs).map .agg
  | .slStr lo hi, .s s :: vs => match bnds s.size s.size lo hi false vs with
    | some (l, h, _) => some (.s (s.extract l h))
    | none => none
  | .slS es lo hi mx, .sl r len cap gr :: vs => match bnds len cap lo hi mx vs with
    | none => none
    | some (l, h, m) => match gr with
      | none => some (.sl (if m = l then r else r.map (·.add (l * es))) (h - l) (m - l) none)
      | some g => match r with
        | none => none
        | some r => if mx then (if l < m then some (.sl (some (r.add (l * es))) (h - l) (m - l) none) else none)
          else if g = es ∧ (l = 0 ∨ l < cap) then some (.sl (some (r.add (l * es))) (h - l) (cap - l) (some g)) else none
  | .lenS, [.s s] => some (.i .i64 s.size)
  | .len, [.sl _ n _ _] => some (.i .i64 n)
  | .lenC n, [_] => some (.i .i64 n)
  | .mm isMax, x :: xs => mmL isMax x xs
  | .nilc, [.p (some r)] => some (.p (some r))
  | .nilc, [.fn f cs] => some (.fn f cs)
  | .nilc, [.ifc t v] => some (.ifc t v)
  | .ext i, [.tup vs] => vs[i]?
  | .mkf f, vs => some (.fn f vs)
  | .mki t, [x] => some (.ifc t x)
  | _, _ => none

/-- What an operation yields and leaves behind. -/
def evalK (k : K) (vs : List AV) (h : H) : Option (AV × H) :=
  match k, vs with
  | .ld1, [.p (some r)] => match rd h r with
    | some v => some (v, h)
    | none => none
  | .ldn n, [.p (some r)] => match rdn h r n with
    | some l => some (.agg l, h)
    | none => none
  | .st n, [.p (some r), x] => if x.cells.length = n then match wrn h r x.cells with
    | some h' => some (.tup [], h')
    | none => none else none
  | .cB2S, [.sl none _ _ _] => some (.s ByteArray.empty, h)
  | .cB2S, [.sl (some r) n _ _] => match rdn h r n with
    | none => none
    | some l => match bytesOf l with
      | none => none
      | some s => some (.s s, h)
  | .alloc z, [] => some (.p (some ⟨h.length, 0⟩), h ++ [⟨z, .own⟩])
  | .box, [x] => if x.cells.all AV.one = true then some (.p (some ⟨h.length, 0⟩), h ++ [⟨x.cells, .own⟩]) else none
  | .bs _ n z ps, vs => match lay z ps vs with
    | none => none
    | some l => if l.all AV.one = true then some (.sl (some ⟨h.length, 0⟩) n n none, h ++ [⟨l, .own⟩]) else none
  | .mk _ bytes z, [.i _ l, .i _ c] => if 0 ≤ l ∧ l ≤ c ∧ c * bytes ≤ 281474976710656 ∧ c ≤ 281474976710656 then
      some (.sl (some ⟨h.length, 0⟩) l.toNat c.toNat none, h ++ [⟨zeros c.toNat z, .own⟩]) else none
  | .app es bytes, [.sl r len cap gr, x] => match srcCells h es x with
    | none => none
    | some (n, new) => appV h es bytes r len cap gr n new
  | .cpy es, [.sl r dl _ _, x] => match srcCells h es x with
    | none => none
    | some (sn, new) => cpyV h es r dl sn new
  | k, vs => match evalP k vs with
    | some v => some (v, h)
    | none => none

mutual
/-- Do all places of a value lie in the first n blocks? (n = 0: a value without places.) -/
def AV.lim (n : Nat) : AV → Bool
  | .p none => true
  | .p (some r) => decide (r.b < n)
  | .sl none _ _ _ => true
  | .sl (some r) _ _ _ => decide (r.b < n)
  | .fn _ cs => lims n cs
  | .ifc _ v => v.lim n
  | .agg cs => lims n cs
  | .tup cs => lims n cs
  | _ => true
def lims (n : Nat) : List AV → Bool
  | [] => true
  | v :: vs => v.lim n && lims n vs
end

/-- Who answers a call. -/
abbrev Caller := FuncId → List AV → H → Option (AV × H)
/-- Is it done? 'none': not known. -/
def AOper.wanted (o : AOper) (e : Env) : Option Bool :=
  match o.guard with
  | none => some true
  | some (t, want) => match e.get t with
    | some (.b x) => some (x == want)
    | some (.tup []) => some false
    | _ => none
def evalOp (C : Caller) (o : AOper) (e : Env) (h : H) : Option (AV × H) :=
  match o.wanted e with
  | none => none
  | some false => some (.tup [], h)
  | some true => match vals e o.xs with
    | none => none
    | some vs => match o.k, vs with
      | .call f, vs => C f vs h
      | .callv, .fn f caps :: vs => C f (vs ++ caps) h
      | .callv, _ => none
      | k, vs => evalK k vs h
def evalOps (C : Caller) : List AOper → Env → H → Option (Env × H)
  | [], e, h => some (e, h)
  | o :: os, e, h => match evalOp C o e h with
    | none => none
    | some (v, h') => evalOps C os (e.put o.dst v) h'
/-- A step that leaves old blocks as they were. -/
def quiet (h h' : H) : Prop := h <+: h'
/-- Every step of the first m is quiet. -/
def quietDraw (C : Caller) : Nat → List AOper → Env → H → Prop
  | 0, _, _, _ => True
  | _ + 1, [], _, _ => True
  | m + 1, o :: os, e, h => match evalOp C o e h with
    | none => False
    | some (v, h') => h <+: h' ∧ quietDraw C m os (e.put o.dst v) h'
/-- Every step of the first p is quiet, and does the same where the block B is turned into Y (but those that must come before the next one, 'pre'); the next one turns it. -/
def turnRun (C : Caller) (pre : List Nat) (B : Nat) (Y : Blk) (n0 : Nat) : Nat → Nat → List AOper → Env → H → Prop
  | _, 0, o :: _, e, h => (∃ X, h[B]? = some X ∧ X.md = .own) ∧ Y.md = .own ∧ lims n0 Y.cells = true ∧ ∃ v, evalOp C o e h = some (v, h.set B Y)
  | j, p + 1, o :: os, e, h => match evalOp C o e h with
    | none => False
    | some (v, h') => h <+: h' ∧ (pre.contains j = true ∨ evalOp C o e (h.set B Y) = some (v, h'.set B Y)) ∧ turnRun C pre B Y n0 (j + 1) p os (e.put o.dst v) h'
  | _, _, [], _, _ => False
def turnDraw (C : Caller) (m : Nat) (pre : List Nat) (os : List AOper) (e : Env) (h : H) : Prop := ∃ p B Y, m = p + 1 ∧ turnRun C pre B Y h.length 0 p os e h
/-- Operations that are quiet by their kind. (q: functions that leave memory as it is.) -/
def K.still (q : FuncId → Bool) : K → Bool
  | .st _ | .app _ _ | .cpy _ | .callv => false
  | .call f => q f
  | _ => true
open Classical in
noncomputable def evalLoop (B : Env → H → Option (AX × Env × H)) : Nat → Env → H → Option (AX × Env × H)
  | 0, _, _ => none
  | n + 1, e, h => match B e h with
    | some (.normal, e', h') => evalLoop B n e' h'
    | r => r
open Classical in
noncomputable def evalC (q : FuncId → Bool) (C : Caller) (n : Nat) : AC → Env → H → Option (AX × Env × H)
  | .skip, e, h => some (.normal, e, h)
  | .reg keep ops, e, h => match evalOps C ops e h with
    | none => none
    | some (e', h') => some (.normal, e'.keep keep, h')
  | .drw keep m pre ops, e, h => if (ops.take m).all (fun o => o.k.still q) = true then match evalOps C ops e h with
      | none => none
      | some (e', h') => some (.normal, e'.keep keep, h')
    else if quietDraw C m ops e h ∨ turnDraw C m pre ops e h then match evalOps C ops e h with
      | none => none
      | some (e', h') => some (.normal, e'.keep keep, h')
    else none
  | .seq a b, e, h => match evalC q C n a e h with
    | some (.normal, e', h') => evalC q C n b e' h'
    | r => r
  | .cond c a b, e, h => match c.val e with
    | some (.b true) => evalC q C n a e h
    | some (.b false) => evalC q C n b e h
    | _ => none
  | .block id a, e, h => match evalC q C n a e h with
    | some (.exit i, e', h') => if i = id then some (.normal, e', h') else some (.exit i, e', h')
    | r => r
  | .loop l a, e, h => evalLoop (fun e h => evalC q C n a (e.keep l) h) n e h
  | .exit id, e, h => some (.exit id, e, h)
  | .ret, e, h => some (.ret, e, h)
  | .bad, _, _ => none

/-- A result: a slot, or the variable behind one (of one cell; of n). -/
inductive ARes where
  | tmp (t : Nat)
  | cell (t : Nat)
  | cells (t n : Nat)
  deriving Inhabited
def ARes.val (e : Env) (h : H) : ARes → Option AV
  | .tmp t => e.get t
  | .cell t => match e.get t with
    | some (.p (some r)) => rd h r
    | _ => none
  | .cells t n => match e.get t with
    | some (.p (some r)) => (rdn h r n).map .agg
    | _ => none
def resVals (e : Env) (h : H) : List ARes → Option (List AV)
  | [] => some []
  | r :: rs => match r.val e h with
    | none => none
    | some v => match resVals e h rs with
      | none => none
      | some vs => some (v :: vs)
def pack : List AV → AV
  | [v] => v
  | vs => .tup vs
structure AFun where
  body : AC
  res : List ARes
  deriving Inhabited
/-- The arguments in their slots. -/
def bindArgs : Nat → List AV → Env
  | _, [] => []
  | i, v :: vs => (i, v) :: bindArgs (i + 1) vs

mutual
/-- The blocks from the n-th on that a value names. -/
def AV.refs (n : Nat) : AV → List Nat
  | .p (some r) => if r.b < n then [] else [r.b]
  | .sl (some r) _ _ _ => if r.b < n then [] else [r.b]
  | .fn _ cs => refsL n cs
  | .ifc _ v => v.refs n
  | .agg cs => refsL n cs
  | .tup cs => refsL n cs
  | _ => []
def refsL (n : Nat) : List AV → List Nat
  | [] => []
  | v :: vs => v.refs n ++ refsL n vs
end
/-- A block's new number. -/
def reno (n : Nat) (idx : List Nat) (b : Nat) : Nat := if b < n then b else n + idx.idxOf b
mutual
/-- A value, its blocks numbered anew. -/
def AV.ren (n : Nat) (idx : List Nat) : AV → AV
  | .p (some r) => .p (some ⟨reno n idx r.b, r.o⟩)
  | .sl (some r) l c g => .sl (some ⟨reno n idx r.b, r.o⟩) l c g
  | .fn f cs => .fn f (renL n idx cs)
  | .ifc t v => .ifc t (v.ren n idx)
  | .agg cs => .agg (renL n idx cs)
  | .tup cs => .tup (renL n idx cs)
  | v => v
def renL (n : Nat) (idx : List Nat) : List AV → List AV
  | [] => []
  | v :: vs => v.ren n idx :: renL n idx vs
end
def cellsAt (h : H) (b : Nat) : List AV := match h[b]? with
  | some blk => blk.cells
  | none => []
/-- What values name, down to a depth. -/
def reach (n : Nat) (h : H) : Nat → List AV → List Nat
  | 0, _ => []
  | d + 1, vs => (refsL n vs).flatMap fun b => b :: reach n h d (cellsAt h b)
def renB (n : Nat) (idx : List Nat) (h : H) (i : Nat) : Blk := match h[i]? with
  | some blk => ⟨renL n idx blk.cells, blk.md⟩
  | none => ⟨[], .dead⟩
/-- May the rest be forgotten? -/
def NeatOk (h : H) (idx : List Nat) (v : AV) (h1 : H) : Prop :=
  h.length ≤ h1.length ∧ idx.Nodup ∧ (∀ b ∈ v.refs h.length, b ∈ idx) ∧ (∀ i ∈ idx, h.length ≤ i ∧ ∃ blk, h1[i]? = some blk ∧ ∀ b ∈ refsL h.length blk.cells, b ∈ idx) ∧
    (∀ b, b < h.length → h1[b]? = h[b]? ∨ ∃ blk, h1[b]? = some blk ∧ lims h.length blk.cells = true)
/-- How a function is run. 'iso': on values without places, in a memory of its own, which is forgotten. 'drop': what it has made is forgotten; it turns nothing and hands out nothing new. 'full': as it is. 'neat': what it has made is forgotten, but for what the result names (down to a depth), which is numbered anew. 'fresh': so too, and it turns nothing old. -/
inductive RunMode where
  | iso | drop | full | neat (d : Nat) | fresh (d : Nat)
/-- What stands behind a function's number: code, or a function of values that has a contract of its own. -/
inductive Meaning where
  | code (m : RunMode) (F : AFun)
  | pure (g : List AV → Option AV)
abbrev Phi := FuncId → Option Meaning
/-- Functions that turn nothing old. -/
def Phi.still (Φ : Phi) (f : FuncId) : Bool := match Φ f with
  | some (.pure _) | some (.code .iso _) | some (.code .drop _) | some (.code (.fresh _) _) => true
  | _ => false
/-- A function's body, from its arguments to its result. -/
noncomputable def runBody (q : FuncId → Bool) (C : Caller) (n : Nat) (F : AFun) (args : List AV) (h : H) : Option (AV × H) :=
  match evalC q C n F.body (bindArgs 0 args) h with
  | some (.exit _, _, _) => none
  | some (_, e, h') => match resVals e h' F.res with
    | some vs => some (pack vs, h')
    | none => none
  | none => none
open Classical in
noncomputable def evalF (Φ : Phi) : Nat → Caller
  | 0, _, _, _ => none
  | n + 1, f, args, h => match Φ f with
    | none => none
    | some (.pure g) => match g args with
      | some v => some (v, h)
      | none => none
    | some (.code .iso F) => if lims 0 args then match runBody Φ.still (evalF Φ n) n F args [] with
      | some (v, _) => if v.lim 0 then some (v, h) else none
      | none => none else none
    | some (.code .drop F) => match runBody Φ.still (evalF Φ n) n F args h with
      | some (v, h') => if h <+: h' ∧ v.lim h.length = true then some (v, h) else none
      | none => none
    | some (.code .full F) => runBody Φ.still (evalF Φ n) n F args h
    | some (.code (.neat d) F) => match runBody Φ.still (evalF Φ n) n F args h with
      | some (v, h1) => if NeatOk h (reach h.length h1 d [v]) v h1 then
          some (v.ren h.length (reach h.length h1 d [v]), h1.take h.length ++ (reach h.length h1 d [v]).map (renB h.length (reach h.length h1 d [v]) h1)) else none
      | none => none
    | some (.code (.fresh d) F) => match runBody Φ.still (evalF Φ n) n F args h with
      | some (v, h1) => if h <+: h1 ∧ NeatOk h (reach h.length h1 d [v]) v h1 then
          some (v.ren h.length (reach h.length h1 d [v]), h1.take h.length ++ (reach h.length h1 d [v]).map (renB h.length (reach h.length h1 d [v]) h1)) else none
      | none => none
end Go.V
