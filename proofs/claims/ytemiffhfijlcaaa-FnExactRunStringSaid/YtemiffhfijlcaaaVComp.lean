import Derived.Test.YtemiffhfijlcaaaVEv
import Derived.Orders
set_option linter.unusedSimpArgs false
set_option linter.unusedVariables false
set_option linter.unusedSectionVars false
/-! From the model's code to the small one. -/
namespace Go.V
open Go

def toAV1 : Value → Option AV
  | .bool b => some (.b b)
  | .int k n => some (.i k n)
  | .float k b => some (.f k (cn k b))
  | .string s => some (.s s)
  | .pointer none => some (.p none)
  | .slice none n c => some (.sl none n c none)
  | .nilFunc => some .nilF
  | .nilIface => some .nilI
  | _ => none
def toAVs : List Value → Option (List AV)
  | [] => some []
  | v :: vs => match toAV1 v with
    | none => none
    | some a => match toAVs vs with
      | none => none
      | some as => some (a :: as)
def toAV : Value → Option AV
  | .agg cs => (toAVs cs.toList).map .agg
  | .tuple ⟨[]⟩ => some (.tup [])
  | v => toAV1 v

/-- A type's zero, in cells. -/
def zeroOf (P : Program) (t : TypeId) : Option (List AV) :=
  match P.info? t with
  | none => none
  | some i => match i.zero with
    | none => none
    | some v => toAVs v.cells.toList
def isAggT (P : Program) (t : TypeId) : Option Bool :=
  match P.underlying t with
  | none => none
  | some (.struct _) => some true
  | some (.array _ _) => some true
  | some _ => some false
def sizeT (P : Program) (t : TypeId) : Option Nat := (P.info? t).map (·.size)
def bytesT (P : Program) (t : TypeId) : Option Nat := (P.info? t).map (·.bytes)
def placesT (P : Program) (fs : Array Field) : Option (List (Nat × Nat)) := fs.toList.mapM (fun f => (P.info? f.type).map fun i => (f.offset, i.size))
def partPlaces (places : List (Nat × Nat)) : List (Nat × Operand) → Option (List (Nat × Nat))
  | [] => some []
  | (i, _) :: ps => match places[i]? with
    | none => none
    | some p => match partPlaces places ps with
      | none => none
      | some l => some (p :: l)

def compCall (P : Program) (c : Call) : Option (K × List Operand) :=
  match c.callee with
  | .value (.func f) => some (.call f, c.args.toList)
  | .value x => some (.callv, x :: c.args.toList)
  | .invoke _ _ => none
  | .builtin b => match b, c.argTypes[0]? with
    | .len, some t => match P.underlying t with
      | some .string => some (.lenS, c.args.toList)
      | some (.slice _) => some (.len, c.args.toList)
      | some (.array n _) => some (.lenC n, c.args.toList)
      | some (.pointer a) => match P.underlying a with
        | some (.array n _) => some (.lenC n, c.args.toList)
        | _ => none
      | _ => none
    | .append, some t => match P.underlying t, c.argTypes[1]? with
      | some (.slice e), some u => match P.underlying u with
        | some (.slice _) => match P.info? e with
          | some i => match zeroOf P e with
            | some z => if z.length = i.size then some (.app i.size i.bytes, c.args.toList) else none
            | none => none
          | none => none
        | _ => none
      | _, _ => none
    | .copy, some t => match P.underlying t with
      | some (.slice e) => match sizeT P e with
        | some s => some (.cpy s, c.args.toList)
        | none => none
      | _ => none
    | .max, _ => some (.mm true, c.args.toList)
    | .min, _ => some (.mm false, c.args.toList)
    | _, _ => none

def compK (P : Program) (op : Op) : Option (K × List Operand) :=
  match op with
  | .move x => some (.mov, [x])
  | .assign x => some (.mov, [x])
  | .pick c a b => some (.pick, [c, a, b])
  | .alloc t => match zeroOf P t with
    | some z => some (.alloc z, [])
    | none => none
  | .box _ x => some (.box, [x])
  | .build t parts => match zeroOf P t with
    | none => none
    | some z => match P.underlying t with
      | some (.struct fs) => match placesT P fs with
        | some places => match partPlaces places parts.toList with
          | some ps => some (.bld z ps, parts.toList.map (·.2))
          | none => none
        | none => none
      | some (.array _ e) => match sizeT P e with
        | some s => some (.bld z (parts.toList.map fun x => (x.1 * s, s)), parts.toList.map (·.2))
        | none => none
      | _ => none
  | .buildSlice t n parts => match P.underlying t with
    | some (.slice e) => match sizeT P e, zeroOf P e with
      | some s, some z => if z.length = s ∧ 0 < s ∧ n * s ≤ 16777216 then some (.bs s n (zeros n z) (parts.toList.map fun x => (x.1 * s, s)), parts.toList.map (·.2)) else none
      | _, _ => none
    | _ => none
  | .load t a => match isAggT P t with
    | some true => match sizeT P t with
      | some n => some (.ldn n, [a])
      | none => none
    | some false => some (.ld1, [a])
    | none => none
  | .store t a x => match sizeT P t with
    | some n => some (.st n, [a, x])
    | none => none
  | .nilCheck x => some (.nilc, [x])
  | .binOp op t x y _ => match op with
    | .eql => match P.underlying t with
      | some .bool => some (.eqB false, [x, y])
      | some (.pointer e) => match sizeT P e with
        | some n => if n = 0 then none else some (.eqP false, [x, y])
        | none => none
      | some (.slice _) => some (.eqSl false, [x, y])
      | some (.func _ _ _) => some (.eqFn false, [x, y])
      | _ => some (.bin .eql, [x, y])
    | .neq => match P.underlying t with
      | some .bool => some (.eqB true, [x, y])
      | some (.pointer e) => match sizeT P e with
        | some n => if n = 0 then none else some (.eqP true, [x, y])
        | none => none
      | some (.slice _) => some (.eqSl true, [x, y])
      | some (.func _ _ _) => some (.eqFn true, [x, y])
      | _ => some (.bin .neq, [x, y])
    | op => some (.bin op, [x, y])
  | .unOp op _ x => match op with
    | .not => some (.not, [x])
    | .neg => some (.neg, [x])
    | _ => none
  | .convert s d x => match P.underlying s, P.underlying d with
    | some _, some (.int k) => some (.cInt k, [x])
    | some _, some (.float k) => some (.cFlt k, [x])
    | some (.slice e), some .string => match P.underlying e with
      | some (.int .u8) => some (.cB2S, [x])
      | _ => none
    | some _, some .string => some (.cStr, [x])
    | _, _ => none
  | .makeInterface t x => match P.underlying t with
    | some (.interface _) => none
    | some _ => some (.mki t, [x])
    | none => none
  | .makeFunc fn first captured => match fn, first with
    | .func f, ⟨[]⟩ => some (.mkf f, captured.toList)
    | _, _ => none
  | .makeSlice t l c => match P.underlying t with
    | some (.slice e) => match P.info? e, zeroOf P e with
      | some i, some z => if z.length = i.size ∧ 0 < i.size then some (.mk i.size i.bytes z, [l, c]) else none
      | _, _ => none
    | _ => none
  | .slice t x lo hi mx => match P.underlying t with
    | some .string => match mx with
      | none => some (.slStr lo.isSome hi.isSome, x :: (lo.toList ++ hi.toList))
      | some _ => none
    | some (.slice e) => match sizeT P e with
      | some s => some (.slS s lo.isSome hi.isSome mx.isSome, x :: (lo.toList ++ hi.toList ++ mx.toList))
      | none => none
    | _ => none
  | .fieldAddr s x f => match P.underlying s with
    | some (.struct fs) => match fs[f]? with
      | some f => match sizeT P f.type with
        | some n => if n = 0 then none else some (.fa f.offset, [x])
        | none => none
      | none => none
    | _ => none
  | .field t x f => match P.underlying t with
    | some (.struct fs) => match fs[f]? with
      | some f => match isAggT P f.type with
        | some true => match sizeT P f.type with
          | some n => some (.fldn f.offset n, [x])
          | none => none
        | some false => some (.fld1 f.offset, [x])
        | none => none
      | none => none
    | _ => none
  | .indexAddr t x i => match P.underlying t with
    | some (.slice e) => match sizeT P e with
      | some s => some (.ia s, [x, i])
      | none => none
    | some (.array n e) => match sizeT P e with
      | some s => some (.iaa n s, [x, i])
      | none => none
    | _ => none
  | .index t x i => match P.underlying t with
    | some (.array n e) => match sizeT P e, isAggT P e with
      | some s, some true => some (.ixAn n s, [x, i])
      | some s, some false => some (.ixA1 n s, [x, i])
      | _, _ => none
    | some .string => some (.ixS, [x, i])
    | _ => none
  | .extract x i => some (.ext i, [x])
  | .call c => compCall P c
  | _ => none

def compOpd : Operand → Option AOpd
  | .tmp t => some (.t t)
  | .const v => (toAV v).map .c
  | .func f => some (.c (.fn f []))
  | .global _ => none
def compOpds : List Operand → Option (List AOpd)
  | [] => some []
  | x :: xs => match compOpd x with
    | none => none
    | some a => match compOpds xs with
      | none => none
      | some as => some (a :: as)
def dstOk (nt : Nat) (o : Oper) : Bool := match o.dst with
  | some d => decide (d < nt)
  | none => true
def compGuard (ops : Array Oper) (o : Oper) : Option (Option (Nat × Bool)) :=
  match o.guard with
  | none => some none
  | some (g, want) => match (ops[g]?).bind (·.dst) with
    | some t => some (some (t, want))
    | none => none
/-- An operation. Where the small code has no word for it: one that is stuck if it is met. -/
def compOper (P : Program) (nt : Nat) (ops : Array Oper) (o : Oper) : Option AOper :=
  if dstOk nt o = true then
    match compGuard ops o with
    | none => none
    | some gd => match compK P o.op with
      | none => some ⟨o.dst, .nilc, [], gd⟩
      | some (k, xs) => match compOpds xs with
        | none => some ⟨o.dst, .nilc, [], gd⟩
        | some as => some ⟨o.dst, k, as, gd⟩
  else none
def compOpers (P : Program) (nt : Nat) (ops : Array Oper) : List Oper → Option (List AOper)
  | [] => some []
  | o :: os => match compOper P nt ops o with
    | none => none
    | some a => match compOpers P nt ops os with
      | none => none
      | some as => some (a :: as)

/-- What each operation stands after, one list for each. -/
def grounds (ops : List Oper) : List (List Nat) :=
  ops.map fun o => (o.after.toList.filter (Region.binds .any ·)).map (·.on)
def union (s : List Nat) : List Nat → List Nat
  | [] => s
  | x :: xs => union (if s.contains x then s else x :: s) xs
def closStep (acc : List (List Nat)) (s : List Nat) : List Nat → List Nat
  | [] => s
  | k :: ks => closStep acc (union s (k :: (acc[k]?).getD [])) ks
/-- What each operation comes after, by way of grounds. -/
def clos (acc : List (List Nat)) : List (List Nat) → List (List Nat)
  | [] => acc
  | ks :: g => clos (acc ++ [closStep acc [] ks]) g
def isAfter (cl : List (List Nat)) (j i : Nat) : Bool := ((cl[j]?).getD []).contains i
def AOpd.tmps : AOpd → List Nat
  | .t n => [n]
  | .c _ => []
/-- The slots that an operation looks at. -/
def AOper.looks (o : AOper) : List Nat := (o.xs.flatMap AOpd.tmps) ++ (match o.guard with
  | some (t, _) => [t]
  | none => [])
/-- The first m operations may stand in any order that their grounds allow; the others come behind all of these, in the text's order. -/
def drawOk (g cl : List (List Nat)) (as : List AOper) (m : Nat) : Bool :=
  let n := as.length
  decide (m ≤ n) && decide (g.length = n) &&
  (List.range n).all fun j => ((g[j]?).getD []).all (fun k => decide (k < j)) && (List.range n).all fun i =>
    match as[i]?, as[j]? with
    | some a, some b =>
      if i < m ∧ j < m then
        (i == j || a.dst.isNone || a.dst != b.dst) &&
        -- does i look at what j yields?
        (i == j || (match b.dst with
          | some d => !a.looks.contains d || (if j < i then isAfter cl i j else isAfter cl j i)
          | none => true))
      else if i < j then isAfter cl j i else true
    | _, _ => false
def tailAt (cl : List (List Nat)) (n : Nat) : Nat :=
  ((List.range (n + 1)).find? fun m => (List.range n).all fun j => if m ≤ j then (List.range j).all fun i => isAfter cl j i else true).getD n

/-- The temporaries that a piece of code reads before it has written them. -/
def exposed (ops : Array Oper) : List Nat :=
  (ops.toList.foldl (fun (acc : List Nat × List Nat) o =>
    (acc.1 ++ (o.looksAt ops).filter (fun t => !acc.2.contains t && !acc.1.contains t), o.dst.toList ++ acc.2)) ([], [])).1
def opdTmp : Operand → List Nat
  | .tmp t => [t]
  | _ => []
def reads : Code → List Nat
  | .region _ ops _ => exposed ops
  | .seq a b => reads a ++ reads b
  | .cond c a b => opdTmp c ++ reads a ++ reads b
  | .block _ a => reads a
  | .loop a => reads a
  | .scope a => reads a
  | _ => []
def insertNat (n : Nat) : List Nat → List Nat
  | [] => [n]
  | m :: ms => if n < m then n :: m :: ms else if n = m then m :: ms else m :: insertNat n ms
def sortNat (l : List Nat) : List Nat := l.foldl (fun acc n => insertNat n acc) []
def resTmps (rs : List ResultVar) : List Nat := rs.map fun | .tmp t => t | .cell a _ => a
def slots (fn : Func) (c : Code) : List Nat := sortNat (reads c ++ resTmps fn.results.toList)

/-- What a piece of code may write. -/
def writes : Code → List Nat
  | .region _ ops _ => ops.toList.filterMap (·.dst)
  | .seq a b => writes a ++ writes b
  | .cond _ a b => writes a ++ writes b
  | .block _ a => writes a
  | .loop a => writes a
  | .scope a => writes a
  | _ => []
/-- 'seen': what may have been written before; 'rest': what may be read behind. -/
def compC (P : Program) (nt : Nat) (sl : List Nat) (seen rest : List Nat) : Code → AC
  | .skip => .skip
  | .region _ ops draw => match compOpers P nt ops ops.toList with
    | none => .bad
    | some l => if draw then
        if drawOk (grounds ops.toList) (clos [] (grounds ops.toList)) l (tailAt (clos [] (grounds ops.toList)) ops.size) = true then .drw (sl.filter rest.contains) (tailAt (clos [] (grounds ops.toList)) ops.size) (((clos [] (grounds ops.toList))[tailAt (clos [] (grounds ops.toList)) ops.size - 1]?).getD []) l else .bad
      else .reg (sl.filter rest.contains) l
  | .seq a b => .seq (compC P nt sl seen (union rest (reads b)) a) (compC P nt sl (seen ++ writes a) rest b)
  | .cond c a b => match compOpd c with
    | some x => .cond x (compC P nt sl seen rest a) (compC P nt sl seen rest b)
    | none => .bad
  | .block id a => .block id (compC P nt sl seen rest a)
  | .loop a => .loop ((sl.filter seen.contains).filter (union rest (reads a)).contains) (compC P nt sl seen (union rest (reads a)) a)
  | .exit id => .exit id
  | .ret => .ret
  | _ => .bad
def compRes (P : Program) : List ResultVar → Option (List ARes)
  | [] => some []
  | .tmp t :: rs => match compRes P rs with
    | some l => some (.tmp t :: l)
    | none => none
  | .cell a t :: rs => match compRes P rs with
    | none => none
    | some l => match isAggT P t with
      | some true => match sizeT P t with
        | some n => some (.cells a n :: l)
        | none => none
      | some false => some (.cell a :: l)
      | none => none
def compF (P : Program) (f : FuncId) : Option AFun :=
  match P.funcs[f]? with
  | none => none
  | some fn => match fn.body with
    | none => none
    | some c => if fn.name == "runtime.NumGoroutine" then none else
      match compRes P fn.results.toList with
      | none => none
      | some rs => some ⟨compC P fn.ntmps (slots fn c) (List.range (fn.params.size + fn.nfree)) (resTmps fn.results.toList) c, rs⟩
end Go.V
