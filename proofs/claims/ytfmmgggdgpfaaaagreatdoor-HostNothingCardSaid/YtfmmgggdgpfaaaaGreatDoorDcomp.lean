/- The deterministic twin of a function's code, worked out of it. -/
import Derived.Test.YtfmmgggdgpfaaaaGreatDoorDsem
namespace Go.Proofs.YtfmmgggdgpfaaaaGreatDoor.DS
set_option linter.unusedVariables false
set_option linter.unusedSimpArgs false
noncomputable section

/-- A constant that holds no address. -/
def cv : Nat → Value → Option DV
  | _, .bool b => some (.bool b)
  | _, .int k n => some (.int k n)
  | _, .string s => some (.str s.data.toList)
  | _, .pointer none => some .nilPtr
  | _, .slice none 0 0 => some .nilSlice
  | _, .map none => some .nilMap
  | _, .nilFunc => some .nilFunc
  | _, .nilIface => some .nilIface
  | n + 1, .iface t v => (cv n v).map (.iface t)
  | n + 1, .agg cs => (cs.toList.mapM (cv n)).map .agg
  | n + 1, .tuple cs => (cs.toList.mapM (cv n)).map .tuple
  | _, _ => none

def cvZero (P : Program) (t : TypeId) : Option DV := ((P.info? t).bind (·.zero)).bind (cv 3)
def cvCells (P : Program) (t : TypeId) : Option (List DV) := (cvZero P t).bind DV.cells

def cOpd (P : Program) : Operand → Option DOpd
  | .tmp t => some (.tmp t)
  | .const v => (cv 3 v).map .const
  | .global g => if g < P.globals.size then some (.global g) else none
  | .func f => some (.func f)

def cOpds (P : Program) (xs : Array Operand) : Option (List DOpd) := xs.toList.mapM (cOpd P)

def cOpt (P : Program) : Option Operand → Option (Option DOpd)
  | none => some none
  | some x => (cOpd P x).map some

def isAggT (P : Program) (t : TypeId) : Option Bool :=
  match P.underlying t with
  | some (.struct _) | some (.array ..) => some true
  | some _ => some false
  | none => none

def sizeT (P : Program) (t : TypeId) : Option Nat := (P.info? t).map (·.size)
def bytesT (P : Program) (t : TypeId) : Option Nat := (P.info? t).map (·.bytes)

def isConstOpd : Operand → Bool
  | .const _ => true
  | _ => false

def cEqTy (P : Program) (t : TypeId) : Option EqTy :=
  match P.underlying t with
  | some .bool => some .bool
  | some (.pointer e) => match sizeT P e with
    | some n => if n = 0 then none else some .ptr
    | none => none
  | some (.interface _) => some .iface
  | some (.slice _) => some .slice
  | some (.map ..) => some .map
  | some (.func ..) => some .func
  | _ => none

/-- The places of a literal's parts. -/
def cParts (P : Program) (place : Nat → Option (Nat × Nat)) (parts : Array (Nat × Operand)) : Option (List ((Nat × Nat) × DOpd)) :=
  parts.toList.mapM fun p => match place p.1, cOpd P p.2 with
    | some q, some x => some (q, x)
    | _, _ => none

def cKeyTy (P : Program) (t : TypeId) : Option KTy :=
  match P.underlying t with
  | some (.int _) => some .int
  | some .string => some .str
  | some .bool => some .bool
  | _ => none

/-- A function without a Go body that the twin knows. -/
def cExt (P : Program) : Operand → Option DExt
  | .func f =>
    match P.funcs[f]? with
    | some fn =>
      if fn.body.isSome then none
      else if fn.name == "internal/abi.NoEscape" && fn.origin == "" then some .noEscape
      else if fn.name == "internal/bytealg.IndexByteString" && fn.origin == "" then some .indexByteString
      else none
    | none => none
  | _ => none

def cAppend (P : Program) (s x : Operand) (t u : TypeId) : Option DOp :=
  match P.underlying t, P.underlying u with
  | some (.slice e), some (.slice _) => do
    let s' ← sizeT P e
    if 0 < s' ∧ ((cvCells P e).map (·.length)) = some s' then pure (.append e s' (← bytesT P e) (← cOpd P s) (← cOpd P x)) else none
  | some (.slice e), some .string =>
    if sizeT P e = some 1 ∧ bytesT P e = some 1 ∧ (cvCells P e).map (·.length) = some 1 then do pure (.appendStr e (← cOpd P s) (← cOpd P x)) else none
  | _, _ => none

def cRaw (P : Program) (p n : Operand) (pt : TypeId) : Option DOp :=
  match P.underlying pt with
  | some (.pointer e) => if sizeT P e = some 1 then do pure (.rawStr e (← cOpd P p) (← cOpd P n)) else none
  | _ => none

def cLen (P : Program) (x : Operand) (t : TypeId) : Option DOp :=
  match P.underlying t with
  | some .string => (cOpd P x).map (.len 0)
  | some (.slice _) => (cOpd P x).map (.len 1)
  | some (.map ..) => (cOpd P x).map (.len 2)
  | _ => none

def cBuiltin (P : Program) (b : Builtin) (args : List Operand) (ts : List TypeId) : Option DOp :=
  match b, args, ts with
  | .append, [s, x], [t, u] => cAppend P s x t u
  | .len, [x], [t] => cLen P x t
  | .max, args, _ => (args.mapM (cOpd P)).map (.maxmin true)
  | .min, args, _ => (args.mapM (cOpd P)).map (.maxmin false)
  | .recover, [], _ => some .recover
  | .unsafeSliceData, [x], _ => (cOpd P x).map .sliceData
  | .unsafeString, [p, n], [pt, _] => cRaw P p n pt
  | _, _, _ => none

def cOp (P : Program) (o : Oper) : Option DOp :=
  match o.op with
  | .move x | .assign x => (cOpd P x).map .move
  | .pick c a b => do pure (.pick (← cOpd P c) (← cOpd P a) (← cOpd P b))
  | .alloc e => do pure (.alloc e (← cvCells P e))
  | .box e x => do pure (.box e (← cOpd P x))
  | .build t parts =>
    match P.underlying t with
    | some (.struct fields) =>
      if fields.toList.all (fun f => (P.info? f.type).isSome) then do
      pure (.build (← cvCells P t) (← cParts P (fun i => (fields[i]?).bind fun f => (sizeT P f.type).map fun s => (f.offset, s)) parts))
      else none
    | some (.array _ e) => do
      let s ← sizeT P e
      pure (.build (← cvCells P t) (← cParts P (fun i => some (i * s, s)) parts))
    | _ => none
  | .buildSlice t len parts =>
    match P.underlying t with
    | some (.slice e) => do
      let s ← sizeT P e
      let zero ← cvCells P e
      if zero.length = s ∧ 0 < s ∧ len * s ≤ 65536 then pure (.buildSlice e s len zero (← cParts P (fun i => some (i * s, s)) parts)) else none
    | _ => none
  | .load t a => do pure (.load (← isAggT P t) (← sizeT P t) (← cOpd P a))
  | .store t a x => do pure (.store (← sizeT P t) (← cOpd P a) (← cOpd P x))
  | .nilCheck x => (cOpd P x).map .nilCheck
  | .binOp op t x y _ =>
    match op, P.underlying t with
    | _, some (.int _) | _, some .string => do pure (.bin op (← cOpd P x) (← cOpd P y))
    | .eql, some _ => do pure (.eq false (← cEqTy P t) (isConstOpd x || isConstOpd y) (← cOpd P x) (← cOpd P y))
    | .neq, some _ => do pure (.eq true (← cEqTy P t) (isConstOpd x || isConstOpd y) (← cOpd P x) (← cOpd P y))
    | _, _ => none
  | .unOp op _ x => do pure (.un op (← cOpd P x))
  | .convert s d x =>
    match P.underlying s, P.underlying d with
    | some (.int _), some (.int k) => (cOpd P x).map (.convInt k)
    | some .string, some .string => (cOpd P x).map .convStr
    | some (.int _), some .string => (cOpd P x).map .runeStr
    | some .string, some (.slice e) => match P.underlying e with
      | some (.int .u8) => (cOpd P x).map (.bytesOf e)
      | _ => none
    | some (.pointer t), some .unsafePointer => match sizeT P t with
      | some n => if n = 0 then none else (cOpd P x).map .toRaw
      | none => none
    | some .unsafePointer, some (.pointer u) => match sizeT P u with
      | some n => if n = 0 then none else (cOpd P x).map (.ofRaw u)
      | none => none
    | _, _ => none
  | .makeInterface t x =>
    match P.underlying t with
    | some (.interface _) | none => none
    | some _ => (cOpd P x).map (.mkIface t)
  | .makeFunc (.func f) first cap => do pure (.mkFunc f (← cOpds P first) (← cOpds P cap))
  | .makeMap _ none => some .mkMap
  | .makeSlice t l c =>
    match P.underlying t with
    | some (.slice e) => do
      let s ← sizeT P e
      let zero ← cvCells P e
      if zero.length = s ∧ 0 < s then pure (.mkSlice e s (← bytesT P e) zero (← cOpd P l) (← cOpd P c)) else none
    | _ => none
  | .slice t x lo hi none =>
    match P.underlying t with
    | some .string => do pure (.sliceStr (← cOpd P x) (← cOpt P lo) (← cOpt P hi))
    | some (.slice e) => do
      let s ← sizeT P e
      if 0 < s then pure (.sliceSl s (← cOpd P x) (← cOpt P lo) (← cOpt P hi)) else none
    | some (.array n e) => do
      let s ← sizeT P e
      if 0 < s then pure (.sliceArr n s (← cOpd P x) (← cOpt P lo) (← cOpt P hi)) else none
    | _ => none
  | .fieldAddr s x f =>
    match P.underlying s with
    | some (.struct fields) => match fields[f]? with
      | some fd => match sizeT P fd.type with
        | some n => if n = 0 then none else (cOpd P x).map (.addr fd.offset)
        | none => none
      | none => none
    | _ => none
  | .field t x f =>
    match P.underlying t with
    | some (.struct fields) => match fields[f]? with
      | some fd => do pure (.field (← isAggT P fd.type) (← sizeT P fd.type) fd.offset (← cOpd P x))
      | none => none
    | _ => none
  | .indexAddr t x i =>
    match P.underlying t with
    | some (.slice e) => do
      let s ← sizeT P e
      if 0 < s then pure (.idxSl s (← cOpd P x) (← cOpd P i)) else none
    | some (.array n e) => do
      let s ← sizeT P e
      if 0 < s then pure (.idxArrP n s (← cOpd P x) (← cOpd P i)) else none
    | _ => none
  | .index t x i =>
    match P.underlying t with
    | some .string => do pure (.idxStr (← cOpd P x) (← cOpd P i))
    | some (.array n e) => do pure (.idxArr (← isAggT P e) n (← sizeT P e) (← cOpd P x) (← cOpd P i))
    | _ => none
  | .lookup t x i ok =>
    match P.underlying t with
    | some (.map k e) => do
      pure (.lookup (← cKeyTy P k) ok (← cvZero P e) (← cOpd P x) (← cOpd P i))
    | _ => none
  | .mapUpdate t m k x | .insert t m k x =>
    match P.underlying t with
    | some (.map kt _) => do
      pure (.mapSet (← cKeyTy P kt) (← cOpd P m) (← cOpd P k) (← cOpd P x))
    | _ => none
  | .typeAssert x _ t ok =>
    match P.underlying t with
    | some (.interface _) | none => none
    | some _ => do pure (.assertC t ok (← cvZero P t) (← cOpd P x))
  | .extract x i => do pure (.extract i (← cOpd P x))
  | .call { callee := .value f, args, .. } =>
    match cExt P f with
    | some e => do pure (.ext e (← cOpds P args))
    | none => do pure (.call (← cOpd P f) (← cOpds P args))
  | .call { callee := .builtin b, args, argTypes } => cBuiltin P b args.toList argTypes.toList
  | .panic x => (cOpd P x).map .panic
  | .defer { callee := .value f, args, .. } => do pure (.defer (← cOpd P f) (← cOpds P args))
  | _ => none

/-- The guard, by the slot of the operation that it names. -/
def cGuard (ops : Array Oper) : Option (Nat × Bool) → Option (Option (Nat × Bool))
  | none => some none
  | some (j, b) => match (ops[j]?).bind (·.dst) with
    | some t => some (some (t, b))
    | none => none

def cOper (P : Program) (ntmps : Nat) (ops : Array Oper) (o : Oper) : DOper :=
  match cGuard ops o.guard, cOp P o with
  | some g, some op =>
    if o.dst.all (· < ntmps) then { dst := o.dst, guard := g, op } else { dst := none, guard := none, op := .unsup }
  | _, _ => { dst := none, guard := none, op := .unsup }

def isEff (o : Oper) : Bool :=
  match o.op with
  | .call { callee := .builtin .len, .. } | .call { callee := .builtin .max, .. } | .call { callee := .builtin .min, .. }
  | .call { callee := .builtin .unsafeSliceData, .. } => false
  | .call _ | .store .. | .mapUpdate .. | .insert .. | .panic _ | .defer _ => true
  | _ => false

/-- What an operation is bound to follow. -/
def edges (o : Oper) : List Nat := (o.after.toList.filter (Region.binds .any)).map (·.on)

/-- What stands ahead of an operation, as bits. -/
def predMask (masks : List (Nat × Nat)) : List Nat → Nat
  | [] => 0
  | e :: es => (2 ^ e ||| (masks.lookup e).getD 0) ||| predMask masks es

def readyOp (done : Nat) (o : Oper) : Bool := (edges o).all fun e => done.testBit e

/-- An order: what is quiet as early as it may come. -/
def eager (ops : List (Nat × Oper)) : Nat → Nat → List (Nat × Oper)
  | 0, _ => []
  | n + 1, done =>
    let rs := ops.filter fun p => !done.testBit p.1 && readyOp done p.2
    match (rs.find? fun p => !isEff p.2).or rs.head? with
    | some p => p :: eager ops n (done ||| 2 ^ p.1)
    | none => []

def cItem (P : Program) (nt : Nat) (ops : Array Oper) (masks : List (Nat × Nat)) (i : Nat) (o : Oper) : DItem :=
  let d := cOper P nt ops o
  { idx := i, eff := d.op.acts, mask := predMask masks (edges o), o := d }

def withMasks (P : Program) (nt : Nat) (ops : Array Oper) : List (Nat × Oper) → List (Nat × Nat) → List (Oper × DItem)
  | [], _ => []
  | (i, o) :: rest, masks =>
    let d := cItem P nt ops masks i o
    (o, d) :: withMasks P nt ops rest ((i, d.mask) :: masks)

/-- Neither writes what the other names. -/
def indep (p i : DOper) : Bool :=
  (match p.dst with | some d => !i.names.contains d | none => true) && (match i.dst with | some d => !p.names.contains d | none => true)

/-- Two operations in this order. -/
def okPair (p i : Oper × DItem) : Bool :=
  (i.2.mask.testBit p.2.idx || (indep p.2.o i.2.o && !p.2.eff)) && !(edges p.1).contains i.2.idx && p.2.idx != i.2.idx

def okSeq (n : Nat) : List (Oper × DItem) → Bool
  | [] => true
  | p :: rest => rest.all (okPair p) && ((edges p.1).all fun e => decide (e < n) && e != p.2.idx) && okSeq n rest

def cItems (P : Program) (ntmps id : Nat) (ops : Array Oper) : DCode :=
  let l := withMasks P ntmps ops (eager (ops.toList.zipIdx.map fun p => (p.2, p.1)) ops.size 0) []
  if ((List.range ops.size).all fun i => l.any fun p => p.2.idx == i) ∧ okSeq ops.size l then
    .dregion id (l.map (·.2))
  else .unsup

def cCode (P : Program) (ntmps : Nat) : Code → DCode
  | .skip => .skip
  | .region _ ops false => .region (ops.toList.map (cOper P ntmps ops))
  | .region id ops true => cItems P ntmps id ops
  | .seq a b => .seq (cCode P ntmps a) (cCode P ntmps b)
  | .cond c a b => match cOpd P c with
    | some z => .cond z (cCode P ntmps a) (cCode P ntmps b)
    | none => .unsup
  | .block id b => .block id (cCode P ntmps b)
  | .loop b => .loop (cCode P ntmps b)
  | .rangeFunc f ps a b => match cOpd P f with
    | some z => if ps.toList.all (· < ntmps) then .rangeFunc z ps.toList (cCode P ntmps a) (cCode P ntmps b) else .unsup
    | none => .unsup
  | .exit id => .exit id
  | .ret => .ret
  | _ => .unsup

def cRes (P : Program) (ntmps : Nat) : ResultVar → Option DRes
  | .tmp t => if t < ntmps then some (.tmp t) else none
  | .cell t ty => do
    if t < ntmps then pure (.cell t (← isAggT P ty) (← sizeT P ty)) else none

def cFunc (P : Program) (fn : Func) : Option DFunc :=
  if fn.name == "runtime.NumGoroutine" then none else
  match fn.body with
  | some c => (fn.results.toList.mapM (cRes P fn.ntmps)).map fun rs =>
    { ntmps := fn.ntmps, results := rs, body := cCode P fn.ntmps c }
  | none => none

def dprog (P : Program) (f : FuncId) : Option DFunc := (P.funcs[f]?).bind (cFunc P)

end
end Go.Proofs.YtfmmgggdgpfaaaaGreatDoor.DS
