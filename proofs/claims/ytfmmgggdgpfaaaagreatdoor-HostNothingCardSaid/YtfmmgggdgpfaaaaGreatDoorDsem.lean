/- The deterministic twin: values, operations, code and its run. -/
import Derived.Recover
import Derived.Below
import Derived.Shaped
import Derived.Lib.Bytealg
namespace Go.Proofs.YtfmmgggdgpfaaaaGreatDoor.DS
set_option linter.unusedVariables false
set_option linter.unusedSimpArgs false
noncomputable section

inductive Tr (α : Type) where
  | nil
  | node (l : Tr α) (v : Option α) (r : Tr α)

namespace Tr
variable {α : Type}
def get (t : Tr α) : Nat → Option α :=
  @Tr.rec α (fun _ => Nat → Option α) (fun _ => none)
    (fun _ v _ gl gr k => @Nat.rec (fun _ => Option α) v (fun j _ => @Bool.rec (fun _ => Option α) (gr (Nat.div j 2)) (gl (Nat.div j 2)) (Nat.beq (Nat.mod j 2) 0)) k) t
def path (x : Option α) (n : Nat) : Nat → Tr α :=
  @Nat.rec (fun _ => Nat → Tr α) (fun _ => .nil)
    (fun _ ih k => @Nat.rec (fun _ => Tr α) (.node .nil x .nil) (fun j _ => @Bool.rec (fun _ => Tr α) (.node .nil none (ih (Nat.div j 2))) (.node (ih (Nat.div j 2)) none .nil) (Nat.beq (Nat.mod j 2) 0)) k) n
def set (t : Tr α) (x : Option α) : Nat → Tr α :=
  @Tr.rec α (fun _ => Nat → Tr α) (fun k => path x (k + 1) k)
    (fun l v r pl pr k => @Nat.rec (fun _ => Tr α) (.node l x r) (fun j _ => @Bool.rec (fun _ => Tr α) (.node l v (pr (Nat.div j 2))) (.node (pl (Nat.div j 2)) v r) (Nat.beq (Nat.mod j 2) 0)) k) t
def put (t : Tr α) (k : Nat) (x : α) : Tr α := set t (some x) k
def del (t : Tr α) (k : Nat) : Tr α := set t none k
end Tr

/-- Whole numbers, compared and wrapped in few steps. -/
def ilt : Int → Int → Bool
  | .ofNat a, .ofNat b => Nat.blt a b
  | .negSucc _, .ofNat _ => true
  | .ofNat _, .negSucc _ => false
  | .negSucc a, .negSucc b => Nat.blt b a
def ieq : Int → Int → Bool
  | .ofNat a, .ofNat b => Nat.beq a b
  | .negSucc a, .negSucc b => Nat.beq a b
  | _, _ => false
def kmax : IntKind → Nat
  | .i8 => 127 | .i16 => 32767 | .i32 => 2147483647 | .i64 => 9223372036854775807
  | .u8 => 255 | .u16 => 65535 | .u32 => 4294967295 | .u64 => 18446744073709551615
def ksigned : IntKind → Bool
  | .i8 | .i16 | .i32 | .i64 => true
  | _ => false
def dwrap (k : IntKind) : Int → Int
  | .ofNat m => cond (Nat.ble m (kmax k)) (.ofNat m) (k.wrap (.ofNat m))
  | .negSucc m => cond (ksigned k && Nat.ble m (kmax k)) (.negSucc m) (k.wrap (.negSucc m))
def nth {α : Type} (l : List α) : Nat → Option α :=
  @List.rec α (fun _ => Nat → Option α) (fun _ => none) (fun a _ ih k => @Nat.rec (fun _ => Option α) (some a) (fun n _ => ih n) k) l

/-- Values: 'bad' is what nothing is known of. -/
inductive DV where
  | bad
  | bool (b : Bool)
  | int (k : IntKind) (n : Int)
  | str (s : List UInt8)
  | nilPtr
  | ptr (d off : Nat)
  | nilSlice
  | slice (d off len esz : Nat)
  | nilMap
  | map (d : Nat)
  | nilFunc
  | func (f : FuncId) (first cap : List DV)
  | yield (d : Nat)
  | nilIface
  | iface (t : TypeId) (v : DV)
  | agg (cs : List DV)
  | tuple (vs : List DV)
  deriving Inhabited

inductive DOpd where
  | tmp (t : Nat)
  | const (v : DV)
  | global (g : Nat)
  | func (f : FuncId)
  deriving Inhabited

/-- What is compared. -/
inductive EqTy where
  | bool | ptr | iface | slice | map | func
  deriving DecidableEq, Inhabited

/-- Kinds of keys. -/
inductive KTy where
  | int | str | bool
  deriving DecidableEq, Inhabited

/-- What has no Go body. -/
inductive DExt where
  | noEscape | indexByteString
  deriving DecidableEq, Inhabited

inductive DOp where
  | move (x : DOpd)
  | pick (c a b : DOpd)
  | alloc (elem : TypeId) (zero : List DV)
  | box (elem : TypeId) (x : DOpd)
  | build (zero : List DV) (parts : List ((Nat × Nat) × DOpd))
  | buildSlice (elem : TypeId) (esz len : Nat) (zero : List DV) (parts : List ((Nat × Nat) × DOpd))
  | load (agg : Bool) (n : Nat) (a : DOpd)
  | store (n : Nat) (a x : DOpd)
  | nilCheck (x : DOpd)
  | bin (op : BinOp) (x y : DOpd)
  | eq (neg : Bool) (ty : EqTy) (lit : Bool) (x y : DOpd)
  | un (op : UnOp) (x : DOpd)
  | convInt (k : IntKind) (x : DOpd)
  | convStr (x : DOpd)
  | bytesOf (elem : TypeId) (x : DOpd)
  | runeStr (x : DOpd)
  | toRaw (x : DOpd)
  | ofRaw (u : TypeId) (x : DOpd)
  | mkIface (t : TypeId) (x : DOpd)
  | mkFunc (f : FuncId) (first cap : List DOpd)
  | mkMap
  | mkSlice (elem : TypeId) (esz bytes : Nat) (zero : List DV) (len cap : DOpd)
  | sliceStr (x : DOpd) (lo hi : Option DOpd)
  | sliceSl (esz : Nat) (x : DOpd) (lo hi : Option DOpd)
  | sliceArr (n esz : Nat) (x : DOpd) (lo hi : Option DOpd)
  | addr (off : Nat) (x : DOpd)
  | field (agg : Bool) (n off : Nat) (x : DOpd)
  | idxSl (esz : Nat) (x i : DOpd)
  | idxArrP (n esz : Nat) (x i : DOpd)
  | idxStr (x i : DOpd)
  | idxArr (agg : Bool) (len esz : Nat) (x i : DOpd)
  | lookup (kt : KTy) (ok : Bool) (zero : DV) (x i : DOpd)
  | mapSet (kt : KTy) (x k v : DOpd)
  | assertC (t : TypeId) (ok : Bool) (zero : DV) (x : DOpd)
  | extract (i : Nat) (x : DOpd)
  | call (f : DOpd) (args : List DOpd)
  | append (elem : TypeId) (esz bytes : Nat) (s x : DOpd)
  | appendStr (elem : TypeId) (s x : DOpd)
  | len (k : Nat) (x : DOpd)
  | maxmin (isMax : Bool) (xs : List DOpd)
  | recover
  | sliceData (x : DOpd)
  | rawStr (elem : TypeId) (p n : DOpd)
  | panic (x : DOpd)
  | defer (f : DOpd) (args : List DOpd)
  | ext (e : DExt) (args : List DOpd)
  | unsup
  deriving Inhabited

structure DOper where
  dst : Option Nat
  guard : Option (Nat × Bool)
  op : DOp
  deriving Inhabited

structure DItem where
  idx : Nat
  eff : Bool
  mask : Nat
  o : DOper
  deriving Inhabited

inductive DCode where
  | skip
  | region (ops : List DOper)
  | dregion (id : Nat) (items : List DItem)
  | seq (a b : DCode)
  | cond (c : DOpd) (a b : DCode)
  | block (id : Nat) (b : DCode)
  | loop (b : DCode)
  | rangeFunc (f : DOpd) (params : List Nat) (assign body : DCode)
  | exit (id : Nat)
  | ret
  | unsup
  deriving Inhabited

inductive DRes where
  | tmp (t : Nat)
  | cell (t : Nat) (agg : Bool) (n : Nat)
  deriving Inhabited

structure DFunc where
  ntmps : Nat
  results : List DRes
  body : DCode
  deriving Inhabited

/-- How a round of a loop over a function was left. -/
inductive DJump where
  | exit (id : Nat)
  | ret

structure DLoop where
  state : LoopState
  pend : Option DJump
  fn : FuncId
  tmps : Tr DV
  params : List Nat
  assign : DCode
  body : DCode
  defs : Nat

inductive DObj where
  | cells (cs : List DV) (elem : TypeId) (frz : Nat) (exact mkd : Bool)
  | map (es : List (DV × DV))
  | loop (l : DLoop)
  | defs (taken : Bool)

structure DBlk where
  own : Bool
  obj : DObj

structure DH where
  next : Nat
  mem : Tr DBlk

def DH.get (H : DH) (d : Nat) : Option DBlk := H.mem.get d
def DH.set (H : DH) (d : Nat) (b : DBlk) : DH := { H with mem := H.mem.put d b }
def DH.del (H : DH) (d : Nat) : DH := { H with mem := H.mem.del d }
def DH.new (H : DH) (b : DBlk) : DH := { next := H.next + 1, mem := H.mem.put H.next b }

inductive DDef where
  | call (f : FuncId) (args : List DV)
  | collected (d : Nat)

structure DFr where
  tmps : Tr DV
  defers : List DDef
  rcv : Option DV
  recd : Bool
  round : Bool

def DFr.eval (fr : DFr) : DOpd → DV
  | .tmp t => (fr.tmps.get t).getD .bad
  | .const v => v
  | .global g => .ptr g 0
  | .func f => .func f [] []

def DFr.put (fr : DFr) (dst : Option Nat) (v : DV) : DFr :=
  match dst with
  | some d => { fr with tmps := fr.tmps.put d v }
  | none => fr

inductive DExit where
  | normal
  | exit (id : Nat)
  | ret
  | panic (v : DV)

inductive DEnd where
  | ret (v : DV)
  | panic (v : DV)

inductive Tgt where
  | fn (dfr : Bool) (avail : Option DV) (f : FuncId) (args : List DV)
  | round (d : Nat) (args : List DV)

inductive DNx where
  | val (v : DV)
  | call (f : FuncId) (args : List DV)
  | round (d : Nat) (args : List DV)
  | recover
  | defer (x : DDef)
  | panic (v : DV)

def dundef : DV := .tuple []

def DV.cells : DV → Option (List DV)
  | .agg cs => some cs
  | .tuple _ => none
  | .bad => none
  | v => some [v]

/-- May it lie in one cell? -/
def DV.scalar : DV → Bool
  | .agg _ | .tuple _ | .bad => false
  | _ => true

def okList (cs : List DV) : Bool := cs.all DV.scalar

/-- Cells put into a row. -/
def putAt {α : Type} : List α → Nat → List α → List α
  | cs, _, [] => cs
  | cs, i, v :: vs => putAt (cs.set i v) (i + 1) vs

def dfill : List DV → List ((Nat × Nat) × DV) → Option (List DV)
  | cs, [] => some cs
  | cs, ((off, size), v) :: rest =>
    match v.cells with
    | some vs => if vs.length = size ∧ off + size ≤ cs.length then dfill (putAt cs off vs) rest else none
    | none => none

def repCells (zero : List DV) : Nat → List DV
  | 0 => []
  | n + 1 => zero ++ repCells zero n

/-- The cells of a live block. -/
def DH.row (H : DH) (d : Nat) : Option (List DV) :=
  match H.get d with
  | some { obj := .cells cs _ _ _ _, .. } => some cs
  | _ => none

def dload (H : DH) (agg : Bool) (n : Nat) : DV → Option DV
  | .ptr d off =>
    match H.row d with
    | some cs =>
      if agg then (if off + n ≤ cs.length then some (.agg ((cs.drop off).take n)) else none)
      else nth cs off
    | none => none
  | _ => none

def dstore (H : DH) (n : Nat) (a v : DV) : Option DH :=
  match a, v.cells with
  | .ptr d off, some vs =>
    match H.get d with
    | some { own := true, obj := .cells cs e frz ex mk } =>
      if vs.length = n ∧ off + n ≤ cs.length ∧ okList vs ∧ (frz ≤ off ∨ n = 0) then
        some (H.set d { own := true, obj := .cells (putAt cs off vs) e frz ex mk })
      else none
    | _ => none
  | _, _ => none

def dint : DV → Option (IntKind × Int)
  | .int k n => some (k, n)
  | _ => none

/-- A bound of a slice expression that lies in 0 .. y. -/
def dbound (y : Nat) : DV → Option Nat
  | .int _ n => if 0 ≤ n ∧ n ≤ y then some n.toNat else none
  | _ => none

def dlohi (len : Nat) (lo hi : Option DV) : Option (Nat × Nat) :=
  match (match hi with | some v => dbound len v | none => some len) with
  | none => none
  | some h =>
    match (match lo with | some v => dbound h v | none => some 0) with
    | some l => some (l, h)
    | none => none

def dand (k : IntKind) (a b : Int) : Int := k.wrap ((BitVec.ofInt k.bits a) &&& (BitVec.ofInt k.bits b)).toNat
def dor (k : IntKind) (a b : Int) : Int := k.wrap ((BitVec.ofInt k.bits a) ||| (BitVec.ofInt k.bits b)).toNat
def dxor (k : IntKind) (a b : Int) : Int := k.wrap ((BitVec.ofInt k.bits a) ^^^ (BitVec.ofInt k.bits b)).toNat
def dintbin (op : BinOp) (k : IntKind) (a b : Int) : Option DV :=
  match op with
  | .add => some (.int k (dwrap k (a + b)))
  | .sub => some (.int k (dwrap k (a - b)))
  | .mul => some (.int k (dwrap k (a * b)))
  | .quo => if b = 0 then none else some (.int k (dwrap k (a.tdiv b)))
  | .rem => if b = 0 then none else some (.int k (a.tmod b))
  | .and => some (.int k (dand k a b))
  | .or => some (.int k (dor k a b))
  | .xor => some (.int k (dxor k a b))
  | .andNot => some (.int k (k.wrap ((BitVec.ofInt k.bits a) &&& ~~~(BitVec.ofInt k.bits b)).toNat))
  | .eql => some (.bool (ieq a b))
  | .neq => some (.bool (!(ieq a b)))
  | .lss => some (.bool (ilt a b))
  | .leq => some (.bool (!(ilt b a)))
  | .gtr => some (.bool (ilt b a))
  | .geq => some (.bool (!(ilt a b)))
  | _ => none

def dstrbin (op : BinOp) (a b : List UInt8) : Option DV :=
  match op with
  | .add => if a.length + b.length ≤ 4611686018427387904 then some (.str (a ++ b)) else none
  | .eql => some (.bool (a == b))
  | .neq => some (.bool (!(a == b)))
  | .lss => some (.bool (Op.bytesLess a b))
  | .leq => some (.bool (Op.bytesLess a b || a == b))
  | .gtr => some (.bool (!(Op.bytesLess a b || a == b)))
  | .geq => some (.bool (!(Op.bytesLess a b)))
  | _ => none

def dbin (op : BinOp) : DV → DV → Option DV
  | .int k a, .int k' b =>
    match op with
    | .shl => if b < 0 then none else some (.int k (k.wrap (a * 2 ^ (min b.toNat k.bits))))
    | .shr => if b < 0 then none else some (.int k (a.fdiv (2 ^ (min b.toNat k.bits))))
    | op => if k = k' then dintbin op k a b else none
  | .str a, .str b => dstrbin op a b
  | _, _ => none

def deq (ty : EqTy) (lit : Bool) : DV → DV → Option Bool
  | .bool a, .bool b => if ty = .bool then some (a == b) else none
  | .nilPtr, .nilPtr => if ty = .ptr then some true else none
  | .nilPtr, .ptr _ _ => if ty = .ptr then some false else none
  | .ptr _ _, .nilPtr => if ty = .ptr then some false else none
  | .ptr d o, .ptr d' o' => if ty = .ptr ∧ d = d' then some (decide (o = o')) else none
  | .nilIface, .nilIface => if ty = .iface ∧ lit then some true else none
  | .nilIface, .iface _ _ => if ty = .iface then some false else none
  | .iface _ _, .nilIface => if ty = .iface then some false else none
  | .nilSlice, .nilSlice => if ty = .slice then some true else none
  | .nilSlice, .slice .. => if ty = .slice then some false else none
  | .slice .., .nilSlice => if ty = .slice then some false else none
  | .nilMap, .nilMap => if ty = .map then some true else none
  | .nilMap, .map _ => if ty = .map then some false else none
  | .map _, .nilMap => if ty = .map then some false else none
  | .nilFunc, .nilFunc => if ty = .func then some true else none
  | .nilFunc, .func .. => if ty = .func then some false else none
  | .func .., .nilFunc => if ty = .func then some false else none
  | _, _ => none

def keyOk : KTy → DV → Bool
  | .int, .int _ _ => true
  | .str, .str _ => true
  | .bool, .bool _ => true
  | _, _ => false

/-- Keys of maps: strings, integers, bools. -/
def sameKey : DV → DV → Option Bool
  | .str a, .str b => some (a == b)
  | .int k a, .int k' b => if k = k' then some (a == b) else none
  | .bool a, .bool b => some (a == b)
  | _, _ => none

def dfind (k : DV) : List (DV × DV) → Option (Option DV)
  | [] => (sameKey k k).map fun _ => none
  | (k', v) :: es =>
    match sameKey k k' with
    | some true => some (some v)
    | some false => dfind k es
    | none => none

def dupd (k v : DV) : List (DV × DV) → Option (List (DV × DV))
  | [] => (sameKey k k).map fun _ => [(k, v)]
  | (k', v') :: es =>
    match sameKey k k' with
    | some true => some ((k, v) :: es)
    | some false => (dupd k v es).map ((k', v') :: ·)
    | none => none

def dmaxmin (isMax : Bool) : DV → List DV → Option DV
  | .int k x, [] => some (.int k x)
  | .int k x, .int _ y :: rest =>
    dmaxmin isMax (.int k (if isMax then (if y > x then y else x) else (if y < x then y else x))) rest
  | _, _ => none

def dgetInts : List DV → Option (List UInt8)
  | [] => some []
  | .int .u8 n :: rest => if 0 ≤ n ∧ n < 256 then (dgetInts rest).map (UInt8.ofNat n.toNat :: ·) else none
  | _ :: _ => none

def ofBytes (s : List UInt8) : List DV := s.map fun b => .int .u8 b.toNat

/-- 'append': the block that the slice lies in is used up; a new one holds all. -/
def dappend (H : DH) (elem : TypeId) (esz bytes : Nat) (s : DV) (k : Nat) (new : List DV) : Option (DV × DH) :=
  match s with
  | .nilSlice =>
    if k = 0 then some (.nilSlice, H)
    else if k * bytes ≤ 140737488355328 ∧ k < 4611686018427387904 ∧ okList new then
      some (.slice H.next 0 k esz, H.new { own := true, obj := .cells new elem 0 false false }) else none
  | .slice d off len e =>
    match H.get d with
    | some { own := true, obj := .cells cs el frz _ mk } =>
      if e = esz ∧ el = elem ∧ off = 0 ∧ len * esz = cs.length ∧ frz ≤ cs.length ∧ (len + k) * bytes ≤ 140737488355328 ∧ len + k < 4611686018427387904 ∧ okList new then
        some (.slice H.next 0 (len + k) esz, (H.del d).new { own := true, obj := .cells (cs ++ new) elem frz false mk })
      else none
    | _ => none
  | _ => none

def dext : DExt → List DV → Option DV
  | .noEscape, [.ptr d o] => some (.ptr d o)
  | .indexByteString, [.str s, .int .u8 n] => some (.int .i64 (Lib.indexByte s n.toNat.toUInt8))
  | _, _ => none

def dop_move (ρ : DOpd → DV) (H : DH) (x : DOpd) : Option (DNx × DH) := some (.val (ρ x), H)
def dop_pick (ρ : DOpd → DV) (H : DH) (c : DOpd) (a : DOpd) (b : DOpd) : Option (DNx × DH) :=
  match ρ c with
  | .bool t => some (.val (if t then ρ a else ρ b), H)
  | _ => none
/-- A new block, and what points to it. -/
abbrev DNew := Option (DBlk × (Nat → DV))
def dnew (H : DH) (r : DNew) : Option (DNx × DH) :=
  match r with
  | some (b, mk) => some (.val (mk H.next), H.new b)
  | none => none
def da_alloc (elem : TypeId) (zero : List DV) : DNew := some ({ own := true, obj := .cells zero elem 0 true false }, fun d => .ptr d 0)
def da_box (ρ : DOpd → DV) (elem : TypeId) (x : DOpd) : DNew :=
  match (ρ x).cells with
  | some cs => some ({ own := true, obj := .cells cs elem 0 true false }, fun d => .ptr d 0)
  | none => none
def da_buildSlice (ρ : DOpd → DV) (elem : TypeId) (esz : Nat) (len : Nat) (zero : List DV) (parts : List ((Nat × Nat) × DOpd)) : DNew :=
  match dfill (repCells zero len) (parts.map fun p => (p.1, ρ p.2)) with
  | some cs => some ({ own := true, obj := .cells cs elem 0 true false }, fun d => .slice d 0 len esz)
  | none => none
def da_bytesOf (ρ : DOpd → DV) (elem : TypeId) (x : DOpd) : DNew :=
  match ρ x with
  | .str s => some ({ own := true, obj := .cells (ofBytes s) elem 0 false true }, fun d => .slice d 0 s.length 1)
  | _ => none
def da_mkMap : DNew := some ({ own := true, obj := .map [] }, fun d => .map d)
def da_mkSlice (ρ : DOpd → DV) (elem : TypeId) (esz : Nat) (bytes : Nat) (zero : List DV) (len : DOpd) (cap : DOpd) : DNew :=
  match ρ len, ρ cap with
  | .int _ l, .int _ c =>
    if 0 ≤ l ∧ l = c ∧ l * bytes ≤ 140737488355328 ∧ l < 4611686018427387904 then
      some ({ own := true, obj := .cells (repCells zero l.toNat) elem 0 true false }, fun d => .slice d 0 l.toNat esz)
    else none
  | _, _ => none
def dop_build (ρ : DOpd → DV) (H : DH) (zero : List DV) (parts : List ((Nat × Nat) × DOpd)) : Option (DNx × DH) := (dfill zero (parts.map fun p => (p.1, ρ p.2))).map fun cs => (.val (.agg cs), H)

def dop_load (ρ : DOpd → DV) (H : DH) (agg : Bool) (n : Nat) (a : DOpd) : Option (DNx × DH) := (dload H agg n (ρ a)).map fun v => (.val v, H)

def dop_store (ρ : DOpd → DV) (H : DH) (n : Nat) (a : DOpd) (x : DOpd) : Option (DNx × DH) := (dstore H n (ρ a) (ρ x)).map fun H' => (.val dundef, H')

def dop_nilCheck (ρ : DOpd → DV) (H : DH) (x : DOpd) : Option (DNx × DH) :=
  match ρ x with
  | .ptr d o => some (.val (.ptr d o), H)
  | .iface t v => some (.val (.iface t v), H)
  | .func f a b => some (.val (.func f a b), H)
  | _ => none
def dop_bin (ρ : DOpd → DV) (H : DH) (op : BinOp) (x : DOpd) (y : DOpd) : Option (DNx × DH) := (dbin op (ρ x) (ρ y)).map fun v => (.val v, H)

def dop_eq (ρ : DOpd → DV) (H : DH) (neg : Bool) (ty : EqTy) (lit : Bool) (x : DOpd) (y : DOpd) : Option (DNx × DH) := (deq ty lit (ρ x) (ρ y)).map fun b => (.val (.bool (if neg then !b else b)), H)

def dop_un (ρ : DOpd → DV) (H : DH) (op : UnOp) (x : DOpd) : Option (DNx × DH) :=
  match op, ρ x with
  | .not, .bool b => some (.val (.bool !b), H)
  | .neg, .int k n => some (.val (.int k (dwrap k (0 - n))), H)
  | .xor, .int k n => (dintbin .xor k (if k.signed then -1 else k.max) n).map fun v => (.val v, H)
  | _, _ => none
def dop_convInt (ρ : DOpd → DV) (H : DH) (k : IntKind) (x : DOpd) : Option (DNx × DH) :=
  match ρ x with
  | .int _ n => some (.val (.int k (dwrap k n)), H)
  | _ => none
def dop_convStr (ρ : DOpd → DV) (H : DH) (x : DOpd) : Option (DNx × DH) :=
  match ρ x with
  | .str s => some (.val (.str s), H)
  | _ => none
def dop_runeStr (ρ : DOpd → DV) (H : DH) (x : DOpd) : Option (DNx × DH) :=
  match ρ x with
  | .int _ n => if 0 ≤ n ∧ n < 128 then some (.val (.str [UInt8.ofNat n.toNat]), H) else none
  | _ => none
def dop_toRaw (ρ : DOpd → DV) (H : DH) (x : DOpd) : Option (DNx × DH) :=
  match ρ x with
  | .ptr d o => match H.row d with
    | some cs => if o < cs.length then some (.val (.ptr d o), H) else none
    | none => none
  | _ => none
def dop_ofRaw (P : Program) (ρ : DOpd → DV) (H : DH) (u : TypeId) (x : DOpd) : Option (DNx × DH) :=
  match ρ x with
  | .ptr d o => match H.get d with
    | some { obj := .cells cs e _ true _, .. } =>
      if liesAt P P.depth e (cs.length / P.cellsOf e) o u 1 then some (.val (.ptr d o), H) else none
    | _ => none
  | _ => none
def dop_mkIface (ρ : DOpd → DV) (H : DH) (t : TypeId) (x : DOpd) : Option (DNx × DH) := some (.val (.iface t (ρ x)), H)

def dop_mkFunc (ρ : DOpd → DV) (H : DH) (f : FuncId) (first : List DOpd) (cap : List DOpd) : Option (DNx × DH) := some (.val (.func f (first.map ρ) (cap.map ρ)), H)

def dop_sliceStr (ρ : DOpd → DV) (H : DH) (x : DOpd) (lo : Option DOpd) (hi : Option DOpd) : Option (DNx × DH) :=
  match ρ x with
  | .str s => (dlohi s.length (lo.map ρ) (hi.map ρ)).map fun (l, h) => (.val (.str ((s.drop l).take (h - l))), H)
  | _ => none
def dop_sliceSl (ρ : DOpd → DV) (H : DH) (esz : Nat) (x : DOpd) (lo : Option DOpd) (hi : Option DOpd) : Option (DNx × DH) :=
  match ρ x with
  | .nilSlice => (dlohi 0 (lo.map ρ) (hi.map ρ)).map fun _ => (.val .nilSlice, H)
  | .slice d off len e =>
    if e = esz then (dlohi len (lo.map ρ) (hi.map ρ)).map fun (l, h) => (.val (.slice d (off + l * esz) (h - l) esz), H) else none
  | _ => none
def dop_sliceArr (ρ : DOpd → DV) (H : DH) (n : Nat) (esz : Nat) (x : DOpd) (lo : Option DOpd) (hi : Option DOpd) : Option (DNx × DH) :=
  match ρ x with
  | .ptr d off => match H.row d with
    | some cs =>
      if off + n * esz ≤ cs.length then (dlohi n (lo.map ρ) (hi.map ρ)).map fun (l, h) => (.val (.slice d (off + l * esz) (h - l) esz), H) else none
    | none => none
  | _ => none
def dop_addr (ρ : DOpd → DV) (H : DH) (off : Nat) (x : DOpd) : Option (DNx × DH) :=
  match ρ x with
  | .ptr d o => some (.val (.ptr d (o + off)), H)
  | _ => none
def dop_field (ρ : DOpd → DV) (H : DH) (agg : Bool) (n : Nat) (off : Nat) (x : DOpd) : Option (DNx × DH) :=
  match ρ x with
  | .agg cs =>
    if agg then (if off + n ≤ cs.length then some (.val (.agg ((cs.drop off).take n)), H) else none)
    else (nth cs off).map fun v => (.val v, H)
  | _ => none
def dop_idxSl (ρ : DOpd → DV) (H : DH) (esz : Nat) (x : DOpd) (i : DOpd) : Option (DNx × DH) :=
  match ρ x, ρ i with
  | .slice d off len e, .int _ n => if e = esz ∧ 0 ≤ n ∧ n < len then some (.val (.ptr d (off + n.toNat * esz)), H) else none
  | _, _ => none
def dop_idxArrP (ρ : DOpd → DV) (H : DH) (len : Nat) (esz : Nat) (x : DOpd) (i : DOpd) : Option (DNx × DH) :=
  match ρ x, ρ i with
  | .ptr d off, .int _ n => if 0 ≤ n ∧ n < len then some (.val (.ptr d (off + n.toNat * esz)), H) else none
  | _, _ => none
def dop_idxStr (ρ : DOpd → DV) (H : DH) (x : DOpd) (i : DOpd) : Option (DNx × DH) :=
  match ρ x, ρ i with
  | .str s, .int _ n => if 0 ≤ n then (nth s n.toNat).map fun b => (.val (.int .u8 b.toNat), H) else none
  | _, _ => none
def dop_idxArr (ρ : DOpd → DV) (H : DH) (agg : Bool) (len : Nat) (esz : Nat) (x : DOpd) (i : DOpd) : Option (DNx × DH) :=
  match ρ x, ρ i with
  | .agg cs, .int _ n =>
    if 0 ≤ n ∧ n < len then
      (if agg then (if n.toNat * esz + esz ≤ cs.length then some (.val (.agg ((cs.drop (n.toNat * esz)).take esz)), H) else none)
      else (nth cs (n.toNat * esz)).map fun v => (.val v, H))
    else none
  | _, _ => none
/-- The entries of a map that is read. -/
def dents (H : DH) : DV → Option (List (DV × DV))
  | .nilMap => some []
  | .map d => match H.get d with
    | some { obj := .map es, .. } => some es
    | _ => none
  | _ => none
def dop_lookup (ρ : DOpd → DV) (H : DH) (kt : KTy) (ok : Bool) (zero : DV) (x : DOpd) (i : DOpd) : Option (DNx × DH) :=
  match dents H (ρ x) with
  | some es =>
    if keyOk kt (ρ i) then
      (dfind (ρ i) es).map fun r => (.val (if ok then .tuple [r.getD zero, .bool r.isSome] else r.getD zero), H)
    else none
  | none => none
def dop_mapSet (ρ : DOpd → DV) (H : DH) (kt : KTy) (x : DOpd) (k : DOpd) (v : DOpd) : Option (DNx × DH) :=
  match ρ x with
  | .map d => match H.get d with
    | some { own := true, obj := .map es } =>
      if keyOk kt (ρ k) then (dupd (ρ k) (ρ v) es).map fun es' => (.val dundef, H.set d { own := true, obj := .map es' }) else none
    | _ => none
  | _ => none
def dop_assertC (ρ : DOpd → DV) (H : DH) (t : TypeId) (ok : Bool) (zero : DV) (x : DOpd) : Option (DNx × DH) :=
  match ρ x with
  | .nilIface => if ok then some (.val (.tuple [zero, .bool false]), H) else none
  | .iface u v =>
    if u = t then some (.val (if ok then .tuple [v, .bool true] else v), H)
    else if ok then some (.val (.tuple [zero, .bool false]), H) else none
  | _ => none
def dop_extract (ρ : DOpd → DV) (H : DH) (i : Nat) (x : DOpd) : Option (DNx × DH) :=
  match ρ x with
  | .tuple vs => (nth vs i).map fun v => (.val v, H)
  | _ => none
def dop_call (ρ : DOpd → DV) (H : DH) (f : DOpd) (args : List DOpd) : Option (DNx × DH) :=
  match ρ f with
  | .func g first cap => some (.call g (first ++ args.map ρ ++ cap), H)
  | .yield d => some (.round d (args.map ρ), H)
  | _ => none
def dop_append (ρ : DOpd → DV) (H : DH) (elem : TypeId) (esz : Nat) (bytes : Nat) (s : DOpd) (x : DOpd) : Option (DNx × DH) :=
  match ρ x with
  | .nilSlice => (dappend H elem esz bytes (ρ s) 0 []).map fun (v, H') => (.val v, H')
  | .slice d off len e =>
    if e = esz then
      match H.row d with
      | some cs =>
        if off + len * esz ≤ cs.length then
          (dappend H elem esz bytes (ρ s) len ((cs.drop off).take (len * esz))).map fun (v, H') => (.val v, H')
        else none
      | none => none
    else none
  | _ => none
def dop_appendStr (ρ : DOpd → DV) (H : DH) (elem : TypeId) (s : DOpd) (x : DOpd) : Option (DNx × DH) :=
  match ρ x with
  | .str t => (dappend H elem 1 1 (ρ s) t.length (ofBytes t)).map fun (v, H') => (.val v, H')
  | _ => none
def dlen (H : DH) : Nat → DV → Option DV
  | 0, .str s => some (.int .i64 s.length)
  | 1, .nilSlice => some (.int .i64 0)
  | 1, .slice _ _ n _ => some (.int .i64 n)
  | 2, v => (dents H v).map fun es => .int .i64 es.length
  | _, _ => none
def dop_len (ρ : DOpd → DV) (H : DH) (k : Nat) (x : DOpd) : Option (DNx × DH) := (dlen H k (ρ x)).map fun v => (.val v, H)
def dop_maxmin (ρ : DOpd → DV) (H : DH) (isMax : Bool) (xs : List DOpd) : Option (DNx × DH) :=
  match xs.map ρ with
  | v :: rest => (dmaxmin isMax v rest).map fun v => (.val v, H)
  | [] => none
def dop_recover (H : DH)  : Option (DNx × DH) := some (.recover, H)

def dop_sliceData (ρ : DOpd → DV) (H : DH) (x : DOpd) : Option (DNx × DH) :=
  match ρ x with
  | .nilSlice => some (.val .nilPtr, H)
  | .slice d off len _ => if 0 < len then some (.val (.ptr d off), H) else none
  | _ => none
def dop_rawStr (ρ : DOpd → DV) (H : DH) (elem : TypeId) (p : DOpd) (n : DOpd) : Option (DNx × DH) :=
  match ρ p, ρ n with
  | .nilPtr, .int .i64 n => if n = 0 then some (.val (.str []), H) else none
  | .ptr d off, .int .i64 n =>
    match H.get d with
    | some { own := true, obj := .cells cs e frz ex false } =>
      if 0 < n ∧ off = 0 ∧ e = elem ∧ n.toNat ≤ cs.length ∧ n < 4611686018427387904 then
        (dgetInts (cs.take n.toNat)).map fun s => (.val (.str s), H.set d { own := true, obj := .cells cs e (max frz n.toNat) ex false })
      else none
    | _ => none
  | _, _ => none
def dop_panic (ρ : DOpd → DV) (H : DH) (x : DOpd) : Option (DNx × DH) :=
  match ρ x with
  | .iface t v => some (.panic (.iface t v), H)
  | _ => none
def dop_defer (ρ : DOpd → DV) (H : DH) (f : DOpd) (args : List DOpd) : Option (DNx × DH) :=
  match ρ f with
  | .func g first cap => some (.defer (.call g (first ++ args.map ρ ++ cap)), H)
  | _ => none
def dop_ext (ρ : DOpd → DV) (H : DH) (e : DExt) (args : List DOpd) : Option (DNx × DH) := (dext e (args.map ρ)).map fun v => (.val v, H)

def dop (P : Program) (ρ : DOpd → DV) (H : DH) : DOp → Option (DNx × DH)
  | .move x => dop_move ρ H x
  | .pick c a b => dop_pick ρ H c a b
  | .alloc elem zero => dnew H (da_alloc elem zero)
  | .box elem x => dnew H (da_box ρ elem x)
  | .build zero parts => dop_build ρ H zero parts
  | .buildSlice elem esz len zero parts => dnew H (da_buildSlice ρ elem esz len zero parts)
  | .load agg n a => dop_load ρ H agg n a
  | .store n a x => dop_store ρ H n a x
  | .nilCheck x => dop_nilCheck ρ H x
  | .bin op x y => dop_bin ρ H op x y
  | .eq neg ty lit x y => dop_eq ρ H neg ty lit x y
  | .un op x => dop_un ρ H op x
  | .convInt k x => dop_convInt ρ H k x
  | .convStr x => dop_convStr ρ H x
  | .bytesOf elem x => dnew H (da_bytesOf ρ elem x)
  | .runeStr x => dop_runeStr ρ H x
  | .toRaw x => dop_toRaw ρ H x
  | .ofRaw u x => dop_ofRaw P ρ H u x
  | .mkIface t x => dop_mkIface ρ H t x
  | .mkFunc f first cap => dop_mkFunc ρ H f first cap
  | .mkMap => dnew H da_mkMap
  | .mkSlice elem esz bytes zero len cap => dnew H (da_mkSlice ρ elem esz bytes zero len cap)
  | .sliceStr x lo hi => dop_sliceStr ρ H x lo hi
  | .sliceSl esz x lo hi => dop_sliceSl ρ H esz x lo hi
  | .sliceArr n esz x lo hi => dop_sliceArr ρ H n esz x lo hi
  | .addr off x => dop_addr ρ H off x
  | .field agg n off x => dop_field ρ H agg n off x
  | .idxSl esz x i => dop_idxSl ρ H esz x i
  | .idxArrP len esz x i => dop_idxArrP ρ H len esz x i
  | .idxStr x i => dop_idxStr ρ H x i
  | .idxArr agg len esz x i => dop_idxArr ρ H agg len esz x i
  | .lookup kt ok zero x i => dop_lookup ρ H kt ok zero x i
  | .mapSet kt x k v => dop_mapSet ρ H kt x k v
  | .assertC t ok zero x => dop_assertC ρ H t ok zero x
  | .extract i x => dop_extract ρ H i x
  | .call f args => dop_call ρ H f args
  | .append elem esz bytes s x => dop_append ρ H elem esz bytes s x
  | .appendStr elem s x => dop_appendStr ρ H elem s x
  | .len k x => dop_len ρ H k x
  | .maxmin isMax xs => dop_maxmin ρ H isMax xs
  | .recover => dop_recover H
  | .sliceData x => dop_sliceData ρ H x
  | .rawStr elem p n => dop_rawStr ρ H elem p n
  | .panic x => dop_panic ρ H x
  | .defer f args => dop_defer ρ H f args
  | .ext e args => dop_ext ρ H e args
  | .unsup => none

/-- Behind an operation: on, or out by a panic. -/
inductive DR where
  | go (fr : DFr) (H : DH)
  | pan (v : DV) (fr : DFr) (H : DH)

abbrev Rec := Tgt → DH → Option (DEnd × Bool × DH)

def dapply (rec : Rec) (dst : Option Nat) (fr : DFr) : DNx → DH → Option DR
  | .val v, H => some (.go (fr.put dst v) H)
  | .call f args, H =>
    match rec (.fn false none f args) H with
    | some (.ret v, _, H') => some (.go (fr.put dst v) H')
    | some (.panic v, _, H') => some (.pan v fr H')
    | none => none
  | .round d args, H =>
    match rec (.round d args) H with
    | some (.ret v, _, H') => some (.go (fr.put dst v) H')
    | some (.panic v, _, H') => some (.pan v fr H')
    | none => none
  | .recover, H =>
    if fr.round then none else
    match fr.rcv with
    | some v => some (.go ({ fr with rcv := none, recd := true }.put dst v) H)
    | none => some (.go (fr.put dst .nilIface) H)
  | .defer x, H => if fr.round then none else some (.go ({ fr with defers := x :: fr.defers }.put dst dundef) H)
  | .panic v, H => some (.pan v fr H)

/-- Is the operation wanted? -/
def dwant (fr : DFr) : Option (Nat × Bool) → Option Bool
  | none => some true
  | some (t, b) =>
    match fr.tmps.get t with
    | some (.bool c) => some (c == b)
    | some .bad => none
    | some _ => some false
    | none => none

def dstep (P : Program) (rec : Rec) (o : DOper) (fr : DFr) (H : DH) : Option DR :=
  match dwant fr o.guard with
  | some true =>
    match dop P fr.eval H o.op with
    | some (x, H') => dapply rec o.dst fr x H'
    | none => none
  | some false => some (.go (fr.put o.dst dundef) H)
  | none => none

def dops (P : Program) (rec : Rec) (l : List DOper) : DFr → DH → Option (DExit × DFr × DH) :=
  @List.rec DOper (fun _ => DFr → DH → Option (DExit × DFr × DH)) (fun fr H => some (.normal, fr, H))
    (fun o _ ih fr H => @Option.rec DR (fun _ => Option (DExit × DFr × DH)) none
      (fun r => @DR.rec (fun _ => Option (DExit × DFr × DH)) (fun fr' H' => ih fr' H') (fun v fr' H' => some (.panic v, fr', H')) r) (dstep P rec o fr H)) l

mutual
def DV.beq : DV → DV → Bool
  | .bool a, .bool b => a == b
  | .int k a, .int k' b => decide (k = k') && a == b
  | .str a, .str b => a == b
  | .nilPtr, .nilPtr => true
  | .ptr a b, .ptr c d => a == c && b == d
  | .nilSlice, .nilSlice => true
  | .slice a b c d, .slice a' b' c' d' => a == a' && b == b' && c == c' && d == d'
  | .nilMap, .nilMap => true
  | .map a, .map b => a == b
  | .nilFunc, .nilFunc => true
  | .func f a b, .func g c d => f == g && DV.beqs a c && DV.beqs b d
  | .yield a, .yield b => a == b
  | .nilIface, .nilIface => true
  | .iface t v, .iface u w => t == u && DV.beq v w
  | .agg a, .agg b => DV.beqs a b
  | .tuple a, .tuple b => DV.beqs a b
  | _, _ => false
def DV.beqs : List DV → List DV → Bool
  | [], [] => true
  | a :: as, b :: bs => DV.beq a b && DV.beqs as bs
  | _, _ => false
end

/-- What a quiet operation gave, and in which frame. -/
structure DLog where
  idx : Nat
  o : DOp
  fr : DFr
  v : DV

def quietVal (P : Program) (o : DOp) (fr : DFr) (H : DH) : Option DV :=
  match dop P fr.eval H o with
  | some (.val v, _) => some v
  | _ => none

/-- Is an operation one that looks at memory, and makes none? -/
def DOp.looks : DOp → Bool
  | .load .. | .lookup .. | .len .. | .toRaw .. | .ofRaw .. | .sliceArr .. => true
  | _ => false

/-- Does it make a block? -/
def DOp.makes : DOp → Bool
  | .alloc .. | .box .. | .buildSlice .. | .bytesOf .. | .mkMap | .mkSlice .. => true
  | _ => false

/-- Does it act? -/
def DOp.acts : DOp → Bool
  | .store .. | .mapSet .. | .call .. | .append .. | .appendStr .. | .recover | .rawStr .. | .panic .. | .defer .. | .ext .. | .unsup => true
  | _ => false

def DOp.opds : DOp → List DOpd
  | .move x | .box _ x | .load _ _ x | .nilCheck x | .un _ x | .convInt _ x | .convStr x | .bytesOf _ x | .runeStr x | .toRaw x | .ofRaw _ x | .mkIface _ x
  | .addr _ x | .field _ _ _ x | .assertC _ _ _ x | .extract _ x | .len _ x | .sliceData x | .panic x => [x]
  | .pick a b c | .mapSet _ a b c => [a, b, c]
  | .alloc .. | .mkMap | .recover | .unsup => []
  | .build _ ps | .buildSlice _ _ _ _ ps => ps.map (·.2)
  | .store _ x y | .bin _ x y | .eq _ _ _ x y | .mkSlice _ _ _ _ x y | .idxSl _ x y | .idxArrP _ _ x y | .idxStr x y | .idxArr _ _ _ x y | .lookup _ _ _ x y
  | .append _ _ _ x y | .appendStr _ x y | .rawStr _ x y => [x, y]
  | .mkFunc _ as bs => as ++ bs
  | .sliceStr x lo hi | .sliceSl _ x lo hi | .sliceArr _ _ x lo hi => x :: (lo.toList ++ hi.toList)
  | .call f as | .defer f as => f :: as
  | .maxmin _ as | .ext _ as => as

/-- The slots that an operation names. -/
def DOper.reads (o : DOper) : List Nat :=
  (o.op.opds.filterMap fun | .tmp t => some t | _ => none) ++ (match o.guard with | some (t, _) => [t] | none => [])
def DOper.names (o : DOper) : List Nat := o.dst.toList ++ o.reads

def recheck (P : Program) (mask : Nat) (H : DH) : List DLog → Bool
  | [] => true
  | l :: ls =>
    (mask.testBit l.idx || (match quietVal P l.o l.fr H with | some v => DV.beq v l.v | none => false)) && recheck P mask H ls

/-- What a region may have written is not known behind a panic. -/
def poison : List DItem → Tr DV → Tr DV
  | [], t => t
  | i :: is, t => poison is (match i.o.dst with | some d => t.put d .bad | none => t)

def ditems (P : Program) (rec : Rec) (all : List DItem) : List DItem → List DLog → DFr → DH → Option (DExit × DFr × DH)
  | [], _, fr, H => some (.normal, fr, H)
  | i :: rest, log, fr, H =>
    match dstep P rec i.o fr H with
    | some (.go fr' H') =>
      if i.eff then
        if recheck P i.mask H' log then ditems P rec all rest log fr' H' else none
      else if i.o.op.makes && (H.get H.next).isSome then none
      else
        ditems P rec all rest
          (if i.o.op.looks ∧ dwant fr i.o.guard = some true then { idx := i.idx, o := i.o.op, fr := fr, v := (quietVal P i.o.op fr H).getD .bad } :: log else log) fr' H'
    | some (.pan v fr' H') => if i.eff then some (.panic v, { fr' with tmps := poison all fr'.tmps }, H') else none
    | none => none

def diter (body : DFr → DH → Option (DExit × DFr × DH)) : Nat → DFr → DH → Option (DExit × DFr × DH)
  | 0, _, _ => none
  | n + 1, fr, H =>
    match body fr H with
    | some (.normal, fr', H') => diter body n fr' H'
    | r => r

def DJump.toExit : DJump → DExit
  | .exit id => .exit id
  | .ret => .ret

/-- Behind the range function. -/
def dendLoop (dl : Nat) (fr : DFr) (H : DH) : Option (DExit × DFr × DH) :=
  match H.get dl with
  | some { own := true, obj := .loop l } =>
    if l.state = .busy then none else
    let H' := H.set dl { own := true, obj := .loop { l with state := .exhausted } }
    match l.pend with
    | none => some (.normal, fr, H')
    | some j => some (j.toExit, fr, H')
  | _ => none

abbrev Out := Option (DExit × DFr × DH)

def dseq (k : DFr → DH → Out) : Out → Out
  | some (.normal, fr, H) => k fr H
  | r => r

def dblock (id : Nat) : Out → Out
  | some (.exit id', fr, H) => if id' = id then some (.normal, fr, H) else some (.exit id', fr, H)
  | r => r

def dcond (x y : Unit → Out) : DV → Out
  | .bool true => x ()
  | .bool false => y ()
  | _ => none

def drange (rec : Rec) (fn : FuncId) (params : List Nat) (assign body : DCode) (f : DV) (fr : DFr) (H : DH) : Out :=
  if fr.round then none else
  match f with
  | .func g first cap =>
    let dd := H.next
    let dl := H.next + 1
    let H1 := (H.new { own := true, obj := .defs false }).new
      { own := true, obj := .loop { state := .ready, pend := none, fn, tmps := fr.tmps, params, assign, body, defs := dd } }
    let fr1 := { fr with defers := .collected dd :: fr.defers }
    match rec (.fn false none g (first ++ [.yield dl] ++ cap)) H1 with
    | some (.ret _, _, H2) => dendLoop dl fr1 H2
    | some (.panic v, _, H2) => some (.panic v, fr1, H2)
    | none => none
  | _ => none

def dexec (P : Program) (rec : Rec) (n : Nat) (fn : FuncId) (c : DCode) : DFr → DH → Out :=
  @DCode.rec (fun _ => DFr → DH → Out)
    (fun fr H => some (.normal, fr, H))
    (fun ops fr H => dops P rec ops fr H)
    (fun _ items fr H => ditems P rec items items [] fr H)
    (fun _ _ iha ihb fr H => dseq ihb (iha fr H))
    (fun c _ _ iha ihb fr H => dcond (fun _ => iha fr H) (fun _ => ihb fr H) (fr.eval c))
    (fun id _ ih fr H => dblock id (ih fr H))
    (fun _ ih fr H => diter ih n fr H)
    (fun f params assign body _ _ fr H => drange rec fn params assign body (fr.eval f) fr H)
    (fun id fr H => some (.exit id, fr, H))
    (fun fr H => some (.ret, fr, H))
    (fun _ _ => none) c

def ofArgs : Nat → List DV → Tr DV → Tr DV
  | _, [], t => t
  | i, v :: vs, t => ofArgs (i + 1) vs (t.put i v)

def dresults (fr : DFr) (H : DH) : List DRes → Option (List DV)
  | [] => some []
  | .tmp t :: rs => (dresults fr H rs).map ((fr.tmps.get t).getD .bad :: ·)
  | .cell t agg n :: rs =>
    match dload H agg n ((fr.tmps.get t).getD .bad), dresults fr H rs with
    | some v, some vs => some (v :: vs)
    | _, _ => none

def tupled : List DV → DV
  | [v] => v
  | vs => .tuple vs

/-- Out of a function: the deferred calls, then the results. -/
def dleave (rec : Rec) (fr : DFr) (rs : List DRes) : List DDef → Option DV → DH → Option (DEnd × DH)
  | [], none, H => (dresults fr H rs).map fun vs => (.ret (tupled vs), H)
  | [], some v, H => some (.panic v, H)
  | .collected d :: ds, u, H =>
    match H.get d with
    | some { own := true, obj := .defs false } => dleave rec fr rs ds u (H.set d { own := true, obj := .defs true })
    | _ => none
  | .call f args :: ds, u, H =>
    match rec (.fn true u f args) H with
    | some (.ret _, recd, H') => dleave rec fr rs ds (if recd then none else u) H'
    | _ => none

def setParams : List Nat → List DV → Tr DV → Option (Tr DV)
  | [], [], t => some t
  | p :: ps, v :: vs, t => setParams ps vs (t.put p v)
  | _, _, _ => none

/-- Behind a round. -/
def dendRound (d : Nat) (j : Option DJump) (H : DH) : Option (DEnd × Bool × DH) :=
  match H.get d with
  | some { own := true, obj := .loop l } =>
    some (.ret (.bool j.isNone), false, H.set d { own := true, obj := .loop { l with state := if j.isNone then .ready else .done, pend := j } })
  | _ => none

def dcall (P : Program) (D : FuncId → Option DFunc) (rec : Rec) (n : Nat) : Tgt → DH → Option (DEnd × Bool × DH)
  | .fn dfr avail f args, H =>
    match D f with
    | none => none
    | some fn =>
      if args.length ≤ fn.ntmps then
        let fr : DFr := { tmps := ofArgs 0 args .nil, defers := [], rcv := cond dfr avail none, recd := false, round := false }
        match dexec P rec n f fn.body fr H with
        | some (.normal, fr', H') | some (.ret, fr', H') =>
          (dleave rec fr' fn.results fr'.defers none H').map fun (e, H'') => (e, fr'.recd, H'')
        | some (.panic v, fr', H') =>
          (dleave rec fr' fn.results fr'.defers (some v) H').map fun (e, H'') => (e, fr'.recd, H'')
        | _ => none
      else none
  | .round d args, H =>
    match H.get d with
    | some { own := true, obj := .loop l } =>
      if l.state = .ready then
        match setParams l.params args l.tmps with
        | none => none
        | some tmps =>
          let fr : DFr := { tmps, defers := [], rcv := none, recd := false, round := true }
          match dexec P rec n l.fn l.assign fr H with
          | some (.normal, fr1, H1) =>
            match H1.get d with
            | some { own := true, obj := .loop l1 } =>
              if l1.state = .ready then
              match dexec P rec n l.fn l.body fr1 (H1.set d { own := true, obj := .loop { l1 with state := .busy } }) with
              | some (.normal, _, H2) => dendRound d none H2
              | some (.exit id, _, H2) => dendRound d (some (.exit id)) H2
              | some (.ret, _, H2) => dendRound d (some .ret) H2
              | some (.panic v, fr2, H2) => if fr2.defers.isEmpty && (D l.fn).isSome then some (.panic v, false, H2) else none
              | none => none
              else none
            | _ => none
          | _ => none
      else none
    | _ => none

/-- The twin's run: X knows some calls beforehand. -/
def drun (X : Tgt → DH → Option (DEnd × Bool × DH)) (P : Program) (D : FuncId → Option DFunc) : Nat → Rec
  | 0, _, _ => none
  | n + 1, t, H =>
    match X t H with
    | some r => some r
    | none => dcall P D (drun X P D n) n t H

def noX : Tgt → DH → Option (DEnd × Bool × DH) := fun _ _ => none

end
end Go.Proofs.YtfmmgggdgpfaaaaGreatDoor.DS
