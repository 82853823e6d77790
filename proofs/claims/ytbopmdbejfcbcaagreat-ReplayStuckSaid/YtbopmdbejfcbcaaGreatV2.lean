/- The machine VM, part 2: clean operations, how they are made of the program's, and what they come to. -/
import Derived.Test.YtbopmdbejfcbcaaGreatV1
set_option linter.unusedVariables false
set_option linter.unusedSectionVars false
set_option linter.unusedSimpArgs false
set_option linter.constructorNameAsVariable false
namespace Go.VM
open Go.RowKit

/-! ### clean code -/

inductive Opd where
  | tmp (t : Nat)
  | con (v : V)
  | bad
  deriving Inhabited

/-- What keys are, and what is compared: numbers (0), texts (1), bools (2), or structs of them. -/
abbrev KT := Nat

inductive COp where
  | bad
  | mv (x : Opd)
  | pick (c a b : Opd)
  | alloc (zs : List V)
  | box (k : Nat) (x : Opd)
  | build (zs : List V) (ps : List (Nat × Nat × Opd))
  | lit (sz len : Nat) (ps : List (Nat × Opd))
  | load (agg : Bool) (k : Nat) (a : Opd)
  | store (k : Nat) (a x : Opd)
  | nilck (x : Opd)
  /-- kd: 0 numbers, texts; 1 bools; against nil: 2 pointers, 3 slices, 4 maps -/
  | bin (kd : Nat) (op : BinOp) (x y : Opd)
  | beq (ks : List Nat) (op : BinOp) (x y : Opd)
  | un (op : UnOp) (x : Opd)
  | conv (k : IntKind) (x : Opd)
  | bytes (x : Opd)
  | text (x : Opd)
  | mkfn (f : Fn) (first cap : List Opd)
  | mkmap
  | mksl (sz bytes : Nat) (zs : List V) (len : Opd)
  | slc (sz : Nat) (x : Opd) (lo hi mx : Option Opd)
  | tslc (x : Opd) (lo hi : Option Opd)
  | fad (off : Nat) (x : Opd)
  | fld (agg : Bool) (off k : Nat) (x : Opd)
  | idx (sz : Nat) (x i : Opd)
  | pidx (n sz : Nat) (x i : Opd)
  | six (x i : Opd)
  | aix (agg : Bool) (n k : Nat) (x i : Opd)
  | ext (x : Opd) (i : Nat)
  | look (kt : KT) (z : V) (m k : Opd) (ok : Bool)
  | mup (kt : KT) (m k v : Opd)
  | del (kt : KT) (m k : Opd)
  | len (kd : Nat) (x : Opd)
  | cap (x : Opd)
  | app (sz bytes : Nat) (s x : Opd)
  | copy (sz : Nat) (d x : Opd)
  | most (max : Bool) (xs : List Opd)
  | rng (x : Opd)
  | nxt (x : Opd)
  | ent (x : Opd)
  | call (f : Opd) (xs : List Opd)
  deriving Inhabited

structure COper where
  dst : Option Nat
  op : COp
  guard : Option (Nat × Bool)
  deriving Inhabited

/-- An operation of a region whose order is drawn: what must have come up ahead of it, which operations it is apart from (as bits), and may it be taken first? -/
structure ROp where
  c : COper
  pre : Nat
  far : Nat
  tk : Bool

inductive CCode where
  | bad
  | skip
  | region (l : List COper)
  | drawn (l : List ROp)
  | seq (a b : CCode)
  | cond (c : Opd) (a b : CCode)
  | block (id : Nat) (c : CCode)
  | loop (c : CCode)
  | exit (id : Nat)
  | ret
  deriving Inhabited

/-! ### from the program's operations -/

def toV : Value → Option V
  | .string s => some (.str (s.data.toList.map UInt8.toNat))
  | .int k n => some (.raw (.int k n))
  | .bool b => some (.raw (.bool b))
  | .pointer none => some (.raw (.pointer none))
  | .slice none 0 0 => some (.raw (.slice none 0 0))
  | .map none => some (.raw (.map none))
  | .nilFunc => some (.raw .nilFunc)
  | _ => none

def toVs : List Value → Option (List V)
  | [] => some []
  | v :: r => match toV v, toVs r with
    | some v, some r => some (v :: r)
    | _, _ => none

def tOpd : Operand → Opd
  | .tmp t => .tmp t
  | .const v => match toV v with | some v => .con v | none => .bad
  | .func f => .con (.fn (.func f) [] [])
  | .global _ => .bad

def tOpds : List Operand → List Opd
  | [] => []
  | x :: r => tOpd x :: tOpds r
def tOpt : Option Operand → Option Opd
  | none => none
  | some x => some (tOpd x)

def tZero (P : Program) (t : TypeId) : Option (List V) := match (P.info? t).bind (·.zero) with
  | some z => toVs z.cells.toList
  | none => none
def tZero1 (P : Program) (t : TypeId) : Option V := match (P.info? t).bind (·.zero) with
  | some z => toV z
  | none => none
def tSize (P : Program) (t : TypeId) : Option Nat := (P.info? t).map (·.size)
def tAgg (P : Program) (t : TypeId) : Option Bool := match P.underlying t with
  | some (.struct _) => some true
  | some (.array _ _) => some true
  | some _ => some false
  | none => none
def tElem (P : Program) (t : TypeId) : Option TypeId := match P.underlying t with | some (.slice e) => some e | _ => none

def tPlaces (P : Program) (fs : Array Field) : Option (List (Nat × Nat)) := fs.toList.mapM fun f => (P.info? f.type).map fun i => (f.offset, i.size)

def tParts (place : Nat → Option (Nat × Nat)) : List (Nat × Operand) → Option (List (Nat × Nat × Opd))
  | [] => some []
  | (i, x) :: r => match place i, tParts place r with
    | some (o, k), some r => some ((o, k, tOpd x) :: r)
    | _, _ => none

def tLits : List (Nat × Operand) → List (Nat × Opd)
  | [] => []
  | (i, x) :: r => (i, tOpd x) :: tLits r

/-- types of one plain cell: numbers, texts, bools -/
def tKind (P : Program) (t : TypeId) : Option Nat := match P.underlying t with
  | some (.int _) => some 0
  | some .string => some 1
  | some .bool => some 2
  | _ => none

/-- a struct's fields are plain, one behind the other -/
def tFlat (P : Program) : Nat → List Field → Option (List Nat)
  | _, [] => some []
  | n, f :: r => match Nat.beq f.offset n, tKind P f.type, f.name == "_" with
    | true, some k, false => match tFlat P (n + 1) r with
      | some l => some (k :: l)
      | none => none
    | _, _, _ => none
def tFlatS (P : Program) (t : TypeId) (fs : Array Field) : Option (List Nat) := match P.stoodInHeld t with
  | false => tFlat P 0 fs.toList
  | true => none

/-- types of keys -/
def tKey (P : Program) (t : TypeId) : Option KT := match P.underlying t with
  | some (.struct _) => none
  | _ => match tKind P t with
    | some k => some k
    | none => none

def tBin (P : Program) (op : BinOp) (t : TypeId) (x y : Opd) : COp := match P.underlying t with
  | some (.int _) => .bin 0 op x y
  | some .string => .bin 0 op x y
  | some .bool => .bin 1 op x y
  | some (.pointer _) => .bin 2 op x y
  | some (.slice _) => .bin 3 op x y
  | some (.map _ _) => .bin 4 op x y
  | some (.struct fs) => match P.eqGuardType P.depth t, tFlatS P t fs with
    | false, some l => .beq l op x y
    | _, _ => .bad
  | _ => .bad

def tCall (P : Program) (c : Call) : COp :=
  match c.callee with
  | .value f => .call (tOpd f) (tOpds c.args.toList)
  | .invoke _ _ => .bad
  | .builtin b => match b, c.args.toList, c.argTypes.toList with
    | .len, [x], [t] => match P.underlying t with
      | some .string => .len 0 (tOpd x)
      | some (.slice _) => .len 1 (tOpd x)
      | some (.map _ _) => .len 2 (tOpd x)
      | _ => .bad
    | .append, [s, x], [t, t'] => match tElem P t with
      | some e => match P.info? e, Nat.beq t t' with
        | some i, true => match Nat.blt 0 i.size && Nat.blt 0 i.bytes && ((i.zero.map (·.cells.size)) == some i.size) with
          | true => .app i.size i.bytes (tOpd s) (tOpd x)
          | false => .bad
        | _, _ => .bad
      | none => .bad
    | .delete, [m, k], [t, _] => match P.underlying t with
      | some (.map kt _) => match tKey P kt with | some t => .del t (tOpd m) (tOpd k) | none => .bad
      | _ => .bad
    | .max, x :: xs, t :: _ => match P.underlying t with
      | some (.int .i64) => .most true (tOpds (x :: xs))
      | _ => .bad
    | .min, x :: xs, t :: _ => match P.underlying t with
      | some (.int .i64) => .most false (tOpds (x :: xs))
      | _ => .bad
    | _, _, _ => .bad

def sameOpd : Operand → Operand → Bool
  | .tmp a, .tmp b => Nat.beq a b
  | .const (.int .i64 a), .const (.int .i64 b) => a == b
  | _, _ => false

def tOp (P : Program) (op : Op) : COp :=
  match op with
  | .move x => .mv (tOpd x)
  | .assign x => .mv (tOpd x)
  | .pick c a b => .pick (tOpd c) (tOpd a) (tOpd b)
  | .alloc e => match tZero P e with | some zs => .alloc zs | none => .bad
  | .box e x => match tSize P e with | some k => .box k (tOpd x) | none => .bad
  | .build t ps => match tZero P t, P.underlying t with
    | some zs, some (.struct fs) => match tPlaces P fs with
      | some pl => match tParts (fun i => pl[i]?) ps.toList with | some q => .build zs q | none => .bad
      | none => .bad
    | some zs, some (.array _ e) => match tSize P e with
      | some k => match tParts (fun i => some (i * k, k)) ps.toList with | some q => .build zs q | none => .bad
      | none => .bad
    | _, _ => .bad
  | .buildSlice t len ps => match tElem P t with
    | some e => match tSize P e, tZero P e with
      | some k, some zs => match Nat.beq zs.length k && Nat.ble (len * k) 16777216 && Nat.blt 0 k with
        | true => .lit k len (tLits ps.toList)
        | false => .bad
      | _, _ => .bad
    | none => .bad
  | .load t a => match tAgg P t, tSize P t with
    | some g, some k => .load g k (tOpd a)
    | _, _ => .bad
  | .store t a x => match tSize P t with | some k => .store k (tOpd a) (tOpd x) | none => .bad
  | .nilCheck x => .nilck (tOpd x)
  | .binOp op t x y _ => tBin P op t (tOpd x) (tOpd y)
  | .unOp op _ x => .un op (tOpd x)
  | .convert t d x => match P.underlying t, P.underlying d with
    | some _, some (.int k) => .conv k (tOpd x)
    | some .string, some (.slice e) => match P.underlying e with
      | some (.int .u8) => .bytes (tOpd x)
      | _ => .bad
    | some (.slice e), some .string => match P.underlying e with
      | some (.int .u8) => .text (tOpd x)
      | _ => .bad
    | _, _ => .bad
  | .makeFunc f first cap => .mkfn f (tOpds first.toList) (tOpds cap.toList)
  | .makeMap t r => match r, P.underlying t with
    | none, some (.map _ _) => .mkmap
    | _, _ => .bad
  | .makeSlice t l c => match tElem P t with
    | some e => match P.info? e, tZero P e with
      | some i, some zs => match Nat.blt 0 i.size && Nat.blt 0 i.bytes && Nat.beq zs.length i.size && sameOpd l c with
        | true => .mksl i.size i.bytes zs (tOpd l)
        | false => .bad
      | _, _ => .bad
    | none => .bad
  | .slice t x lo hi mx => match P.underlying t with
    | some (.slice e) => match tSize P e with
      | some k => .slc k (tOpd x) (tOpt lo) (tOpt hi) (tOpt mx)
      | none => .bad
    | _ => .bad
  | .fieldAddr t x i => match P.underlying t with
    | some (.struct fs) => match fs[i]? with
      | some f => match tSize P f.type with
        | some (_ + 1) => .fad f.offset (tOpd x)
        | _ => .bad
      | none => .bad
    | _ => .bad
  | .field t x i => match P.underlying t with
    | some (.struct fs) => match fs[i]? with
      | some f => match tAgg P f.type, tSize P f.type with
        | some g, some k => .fld g f.offset k (tOpd x)
        | _, _ => .bad
      | none => .bad
    | _ => .bad
  | .indexAddr t x i => match P.underlying t with
    | some (.slice e) => match tSize P e with | some k => .idx k (tOpd x) (tOpd i) | none => .bad
    | _ => .bad
  | .index t x i => match P.underlying t with
    | some .string => .six (tOpd x) (tOpd i)
    | _ => .bad
  | .extract x i => .ext (tOpd x) i
  | .lookup t m k ok => match P.underlying t with
    | some (.map kt e) => match tKey P kt, tZero1 P e with
      | some t, some z => .look t z (tOpd m) (tOpd k) ok
      | _, _ => .bad
    | _ => .bad
  | .mapUpdate t m k v => match P.underlying t with
    | some (.map kt e) => match tKey P kt with | some t => .mup t (tOpd m) (tOpd k) (tOpd v) | none => .bad
    | _ => .bad
  | .range t x => match P.underlying t with
    | some (.map _ _) => .rng (tOpd x)
    | _ => .bad
  | .next x false => .nxt (tOpd x)
  | .entry x => .ent (tOpd x)
  | .call c => tCall P c
  | _ => .bad

def okDst (N : Nat) : Option Nat → Bool
  | some d => Nat.blt d N
  | none => true

def tOper (P : Program) (N : Nat) (ops : Array Oper) (o : Oper) : COper :=
  match okDst N o.dst with
  | true => match o.guard with
    | none => ⟨o.dst, tOp P o.op, none⟩
    | some (j, b) => match (ops[j]?).bind (·.dst) with
      | some t => ⟨o.dst, tOp P o.op, some (t, b)⟩
      | none => ⟨none, .bad, none⟩
  | false => ⟨none, .bad, none⟩

def tOpers (P : Program) (N : Nat) (ops : Array Oper) : List Oper → List COper
  | [] => []
  | o :: r => tOper P N ops o :: tOpers P N ops r

/-- may it be taken first? -/
def mayTake (op : Op) : Bool :=
  match op with
  | .move _ | .assign _ | .pick _ _ _ | .build _ _ | .nilCheck _ | .binOp _ _ _ _ _ | .unOp _ _ _ | .convert _ _ _ | .makeFunc _ _ _ | .slice _ _ _ _ _ | .fieldAddr _ _ _ | .field _ _ _ | .indexAddr _ _ _ | .index _ _ _ | .extract _ _ => true
  | .load _ _ => true
  | .lookup _ _ _ _ => true
  | .call c => match c.callee with
    | .builtin .len => true
    | .builtin .max => true
    | .builtin .min => true
    | _ => false
  | _ => false

def bitsOf : List Nat → Nat
  | [] => 0
  | i :: r => Nat.lor (Nat.pow 2 i) (bitsOf r)

def tPre : List Edge → List Nat
  | [] => []
  | e :: r => match Region.binds .any e with
    | true => e.on :: tPre r
    | false => tPre r

def memN (x : Nat) : List Nat → Bool
  | [] => false
  | y :: r => match Nat.beq x y with | true => true | false => memN x r

/-- what of an operation counts for its order: where its value goes, and what it looks at -/
def apartB (dx : Option Nat) (lx : List Nat) (dy : Option Nat) (ly : List Nat) : Bool :=
  (match dx with
    | some d => !memN d ly && (match dy with | some d' => !Nat.beq d' d | none => true)
    | none => true) &&
  (match dy with
    | some d => !memN d lx
    | none => true)

/-- the operations that one is apart from, or that wait for it -/
def farOf (i : Nat) (dx : Option Nat) (lx : List Nat) : Nat → List (Option Nat × List Nat × Nat) → List Nat
  | _, [] => []
  | j, (dy, ly, pre) :: r => match Nat.beq i j || Nat.testBit pre i || apartB dx lx dy ly with
    | true => j :: farOf i dx lx (Nat.succ j) r
    | false => farOf i dx lx (Nat.succ j) r

def tLooks (ops : Array Oper) : List Oper → List (Option Nat × List Nat × Nat)
  | [] => []
  | o :: r => (o.dst, o.looksAt ops, bitsOf (tPre o.after.toList)) :: tLooks ops r

def tROps (P : Program) (N : Nat) (ops : Array Oper) (ks : List (Option Nat × List Nat × Nat)) : Nat → List Oper → List ROp
  | _, [] => []
  | i, o :: r => ⟨tOper P N ops o, bitsOf (tPre o.after.toList), bitsOf (farOf i o.dst (o.looksAt ops) 0 ks), mayTake o.op⟩ :: tROps P N ops ks (Nat.succ i) r

def tCode (P : Program) (N : Nat) : Code → CCode
  | .skip => .skip
  | .region _ ops false => .region (tOpers P N ops ops.toList)
  | .region _ ops true => match P.follows .mixedOrders && Region.noSelect ops with
    | true => .drawn (tROps P N ops (tLooks ops ops.toList) 0 ops.toList)
    | false => .bad
  | .seq a b => .seq (tCode P N a) (tCode P N b)
  | .cond c a b => .cond (tOpd c) (tCode P N a) (tCode P N b)
  | .block id c => .block id (tCode P N c)
  | .loop c => .loop (tCode P N c)
  | .exit id => .exit id
  | .ret => .ret
  | _ => .bad

/-- what a result is read off -/
inductive Res where
  | tmp (t : Nat)
  | cell (t : Nat) (agg : Bool) (k : Nat)
  | bad

def tRes (P : Program) : ResultVar → Res
  | .tmp t => .tmp t
  | .cell a t => match tAgg P t, tSize P t with
    | some g, some k => .cell a g k
    | _, _ => .bad
def tRess (P : Program) : List ResultVar → List Res
  | [] => []
  | r :: l => tRes P r :: tRess P l

structure CFn where
  code : CCode
  res : List Res
  n : Nat

def tFn (P : Program) (fn : Func) : Option CFn :=
  match fn.body, fn.name == "runtime.NumGoroutine" with
  | some c, false => some ⟨tCode P fn.ntmps c, tRess P fn.results.toList, fn.ntmps⟩
  | _, _ => none

/-! ### what they come to -/

def V.cells : V → List V
  | .agg cs => cs
  | c => [c]

/-- one cell -/
def V.one : V → Bool
  | .any => false
  | .agg _ => false
  | .tup _ => false
  | _ => true

def allOne : List V → Bool
  | [] => true
  | c :: r => match c.one with | true => allOne r | false => false

def opd (e : T V) : Opd → Option V
  | .tmp t => e.get t
  | .con v => some v
  | .bad => none

def opds (e : T V) : List Opd → Option (List V)
  | [] => some []
  | x :: r => match opd e x, opds e r with
    | some c, some r => some (c :: r)
    | _, _ => none

def wr (k : IntKind) (n : Int) : Int :=
  match k with
  | .i64 => match n with
    | .ofNat m => match Nat.blt m 9223372036854775808 with | true => .ofNat m | false => k.wrap n
    | .negSucc m => match Nat.blt m 9223372036854775808 with | true => .negSucc m | false => k.wrap n
  | .u64 => match n with
    | .ofNat m => match Nat.blt m 18446744073709551616 with | true => .ofNat m | false => k.wrap n
    | .negSucc _ => k.wrap n
  | _ => k.wrap n

def eqI : Int → Int → Bool
  | .ofNat a, .ofNat b => Nat.beq a b
  | .negSucc a, .negSucc b => Nat.beq a b
  | _, _ => false
def ltI : Int → Int → Bool
  | .ofNat a, .ofNat b => Nat.blt a b
  | .negSucc _, .ofNat _ => true
  | .negSucc a, .negSucc b => Nat.blt b a
  | _, _ => false
def eqB : Bool → Bool → Bool
  | true, b => b
  | false, true => false
  | false, false => true
def eqL : List Nat → List Nat → Bool
  | [], [] => true
  | a :: r, b :: s => match Nat.beq a b with | true => eqL r s | false => false
  | _, _ => false

def yes (b : Bool) : Option V := some (.raw (.bool b))

def isShift : BinOp → Bool
  | .shl => true
  | .shr => true
  | _ => false

def bits (op : BinOp) (k : IntKind) (a b : Int) : Int :=
  match k, a, b with
  | .i64, .ofNat m, .ofNat n => match Nat.blt m 9223372036854775808 && Nat.blt n 9223372036854775808 with
    | true => match op with
      | .and => .ofNat (Nat.land m n)
      | .or => .ofNat (Nat.lor m n)
      | _ => .ofNat (Nat.xor m n)
    | false => match op with
      | .and => k.wrap (BitVec.ofInt k.bits a &&& BitVec.ofInt k.bits b).toNat
      | .or => k.wrap (BitVec.ofInt k.bits a ||| BitVec.ofInt k.bits b).toNat
      | _ => k.wrap (BitVec.ofInt k.bits a ^^^ BitVec.ofInt k.bits b).toNat
  | k, a, b => match op with
      | .and => k.wrap (BitVec.ofInt k.bits a &&& BitVec.ofInt k.bits b).toNat
      | .or => k.wrap (BitVec.ofInt k.bits a ||| BitVec.ofInt k.bits b).toNat
      | _ => k.wrap (BitVec.ofInt k.bits a ^^^ BitVec.ofInt k.bits b).toNat

def binI (op : BinOp) (k : IntKind) (a b : Int) : Option V :=
  match op with
  | .add => some (.raw (.int k (wr k (Int.add a b))))
  | .sub => some (.raw (.int k (wr k (Int.sub a b))))
  | .mul => some (.raw (.int k (wr k (Int.mul a b))))
  | .quo => match eqI b 0 with | true => none | false => some (.raw (.int k (wr k (a.tdiv b))))
  | .rem => match eqI b 0 with | true => none | false => some (.raw (.int k (a.tmod b)))
  | .and => some (.raw (.int k (bits .and k a b)))
  | .or => some (.raw (.int k (bits .or k a b)))
  | .xor => some (.raw (.int k (bits .xor k a b)))
  | .andNot => some (.raw (.int k (k.wrap (BitVec.ofInt k.bits a &&& ~~~(BitVec.ofInt k.bits b)).toNat)))
  | .eql => yes (eqI a b)
  | .neq => yes (!eqI a b)
  | .lss => yes (ltI a b)
  | .leq => yes (!ltI b a)
  | .gtr => yes (ltI b a)
  | .geq => yes (!ltI a b)
  | _ => none

def shI (op : BinOp) (k : IntKind) (a b : Int) : Option V :=
  match ltI b 0, op with
  | false, .shl => some (.raw (.int k (wr k (a * 2 ^ (min b.toNat k.bits)))))
  | false, .shr => some (.raw (.int k (a.fdiv (2 ^ (min b.toNat k.bits)))))
  | _, _ => none

def kindOk : Nat → V → Bool
  | 0, .raw (.int _ _) => true
  | 1, .str _ => true
  | 2, .raw (.bool _) => true
  | _, _ => false
def kindsOk : List Nat → List V → Bool
  | [], [] => true
  | k :: r, c :: s => match kindOk k c with | true => kindsOk r s | false => false
  | _, _ => false
def cellEq : V → V → Option Bool
  | .raw (.int j a), .raw (.int k b) => match decide (j = k) with | true => some (eqI a b) | false => none
  | .raw (.bool a), .raw (.bool b) => some (eqB a b)
  | .str a, .str b => some (eqL a b)
  | _, _ => none
def eqCells : List V → List V → Option Bool
  | [], [] => some true
  | a :: r, b :: s => match cellEq a b, eqCells r s with
    | some x, some y => some (x && y)
    | _, _ => none
  | _, _ => none

/-- is it nil? -/
def nilP : V → Option Bool
  | .raw (.pointer none) => some true
  | .ptr _ _ => some false
  | .fpt _ _ => some false
  | _ => none
def nilS : V → Option Bool
  | .raw (.slice none 0 0) => some true
  | .sl _ _ _ _ _ => some false
  | .emp => some false
  | .fro _ (_ + 1) _ => some false
  | _ => none
def nilM : V → Option Bool
  | .raw (.map none) => some true
  | .mp _ => some false
  | _ => none

def asks (op : BinOp) (b : Bool) : Option V :=
  match op with
  | .eql => yes b
  | .neq => yes (!b)
  | _ => none

def nilv (op : BinOp) : Option Bool → Option Bool → Option V
  | some true, some b => asks op b
  | some false, some true => asks op false
  | _, _ => none
def binv (kd : Nat) (op : BinOp) (x y : V) : Option V :=
  match kd with
  | 0 => match x, y with
    | .raw (.int k a), .raw (.int k' b) => match isShift op with
      | true => shI op k a b
      | false => match decide (k = k') with | true => binI op k a b | false => none
    | .str a, .str b => match op with
      | .add => match Nat.ble (a.length + b.length) 9223372036854775807 with | true => some (.str (a ++ b)) | false => none
      | _ => asks op (eqL a b)
    | _, _ => none
  | 1 => match x, y with
    | .raw (.bool a), .raw (.bool b) => asks op (eqB a b)
    | _, _ => none
  | 2 => nilv op (nilP x) (nilP y)
  | 3 => nilv op (nilS x) (nilS y)
  | 4 => nilv op (nilM x) (nilM y)
  | _ => none
def beqv (ks : List Nat) (op : BinOp) (x y : V) : Option V :=
  match x, y with
  | .agg a, .agg b => match kindsOk ks a, eqCells a b with
    | true, some t => asks op t
    | _, _ => none
  | _, _ => none

def unv (op : UnOp) : V → Option V
  | .raw (.bool b) => match op with | .not => yes (!b) | _ => none
  | .raw (.int k n) => match op with
    | .neg => some (.raw (.int k (wr k (Int.sub 0 n))))
    | .xor => some (.raw (.int k (k.wrap (BitVec.ofInt k.bits (if k.signed then -1 else k.max) ^^^ BitVec.ofInt k.bits n).toNat)))
    | _ => none
  | _ => none

/-- cells written into cells -/
def putCells (cs : List V) (off : Nat) : List V → List V
  | [] => cs
  | v :: r => putCells (cs.set off v) (off + 1) r

def buildv (e : T V) (cs : List V) : List (Nat × Nat × Opd) → Option (List V)
  | [] => some cs
  | (off, k, x) :: r => match opd e x with
    | none => none
    | some v => match Nat.beq v.cells.length k && Nat.ble (off + k) cs.length && allOne v.cells with
      | true => buildv e (putCells cs off v.cells) r
      | false => none

/-- a literal's cells -/
def litv (e : T V) (sz : Nat) : Nat → List (Nat × Opd) → Option (List V)
  | _, [] => some []
  | n, (i, x) :: r => match Nat.beq i n, opd e x, litv e sz (n + 1) r with
    | true, some c, some l => match Nat.beq c.cells.length sz && allOne c.cells with
      | true => some (c.cells ++ l)
      | false => none
    | _, _, _ => none

/-- k cells of a list, from a place on -/
def cut (cs : List V) (o k : Nat) : List V := (cs.drop o).take k
def cellsAt (g : Nat → V) : Nat → Nat → List V
  | _, 0 => []
  | o, k + 1 => g o :: cellsAt g (o + 1) k

/-- a value of cells -/
def ofCells (agg : Bool) (cs : List V) : Option V :=
  match agg, cs with
  | true, cs => some (.agg cs)
  | false, [c] => some c
  | _, _ => none

def i64? : V → Option Int
  | .raw (.int .i64 n) => some n
  | _ => none

/-- a number as a place: 0 to n -/
def place (v : Option V) (n : Nat) : Option Nat :=
  match v with
  | some (.raw (.int .i64 (.ofNat m))) => match Nat.ble m n with | true => some m | false => none
  | _ => none
def placeO (e : T V) (x : Option Opd) (d n : Nat) : Option Nat :=
  match x with
  | none => some d
  | some x => place (opd e x) n

def reps (zs : List V) : Nat → List V
  | 0 => []
  | n + 1 => zs ++ reps zs n

def ints : List V → Option (List Int)
  | [] => some []
  | c :: r => match i64? c, ints r with
    | some n, some l => some (n :: l)
    | _, _ => none
def mostI (mx : Bool) : Int → List Int → Int
  | a, [] => a
  | a, b :: r => mostI mx (match mx with | true => (match ltI a b with | true => b | false => a) | false => (match ltI b a with | true => b | false => a)) r

/-- a key's place, and what it holds; outer none: it can't be told -/
def findKey (k : V) : List (V × V × Nat) → Nat → Option (Option (Nat × V))
  | [], _ => some none
  | (k', v, _) :: r, i => match cellEq k k' with
    | some true => some (some (i, v))
    | some false => findKey k r (i + 1)
    | none => none

/-- what may come next of a map -/
def nextOf (es : List (V × V × Nat)) (since : Nat) (seen : List Nat) (last : Nat) : Option (Option (V × V × Nat)) :=
  match (!seen.isEmpty) && (!es.isEmpty) && es.all (fun e => Nat.ble last e.2.2) with
  | true => none
  | false =>
    let left := es.filter fun e => !seen.contains e.2.2
    match left.filter (fun e => Nat.blt e.2.2 since), left.filter (fun e => Nat.ble since e.2.2) with
    | [], [] => some none
    | [e], [] => some (some e)
    | _, _ => none

/-! what quiet operations come to: the value, and the block that is made (named nm); one by one -/

abbrev YV := Option (V × Option Blk)
def ret (v : Option V) : YV := match v with | some v => some (v, none) | none => none
def yPick (e : T V) (a b : Opd) : Option V → YV
  | some (.raw (.bool true)) => ret (opd e a)
  | some (.raw (.bool false)) => ret (opd e b)
  | _ => none
def yBox (nm k : Nat) : Option V → YV
  | some c => match Nat.beq c.cells.length k && allOne c.cells with | true => some (.ptr nm 0, some (.cells c.cells)) | false => none
  | none => none
def yBuild : Option (List V) → YV
  | some cs => some (.agg cs, none)
  | none => none
def yLit (nm sz len n : Nat) : Option (List V) → YV
  | some l => match Nat.beq n len with | true => some (.sl nm sz 0 len (some len), some (.cells l)) | false => none
  | none => none
def yLoadB (agg : Bool) (k o : Nat) : Option Blk → YV
  | some (.cells cs) => match Nat.ble (o + k) cs.length with
    | true => ret (ofCells agg (cut cs o k))
    | false => none
  | _ => none
def yLoad (h : Heap) (agg : Bool) (k : Nat) : Option V → YV
  | some (.fpt m g) => match Nat.ble k m with
    | true => ret (ofCells agg (cellsAt g 0 k))
    | false => none
  | some (.ptr x o) => yLoadB agg k o (h.get x)
  | _ => none
def yNil : Option V → YV
  | some (.fpt m g) => some (.fpt m g, none)
  | some (.ptr x o) => some (.ptr x o, none)
  | _ => none
def yBin (kd : Nat) (op : BinOp) : Option V → Option V → YV
  | some a, some b => ret (binv kd op a b)
  | _, _ => none
def yBeq (ks : List Nat) (op : BinOp) : Option V → Option V → YV
  | some a, some b => ret (beqv ks op a b)
  | _, _ => none
def yUn (op : UnOp) : Option V → YV
  | some a => ret (unv op a)
  | none => none
def yConv (k : IntKind) : Option V → YV
  | some (.raw (.int _ n)) => some (.raw (.int k (wr k n)), none)
  | _ => none
def yFn (f : Fn) : Option (List V) → Option (List V) → YV
  | some a, some b => some (.fn f a b, none)
  | _, _ => none
def yMake (nm sz bytes : Nat) (zs : List V) : Option V → YV
  | some (.raw (.int .i64 (.ofNat n))) => match Nat.ble (n * bytes) 140737488355328 with
    | true => some (.sl nm sz 0 n (some n), some (.cells (reps zs n)))
    | false => none
  | _ => none
def less (cap : Option Nat) (l : Nat) : Option Nat := match cap with | some c => some (c - l) | none => none
def ySlc2 (y sz off : Nat) (cap : Option Nat) : Option Nat → Option Nat → YV
  | some k, some l => some (.sl y sz (off + l * sz) (k - l) (less cap l), none)
  | _, _ => none
def yFro2 (sz : Nat) (g : Nat → Nat → V) : Option Nat → Option Nat → YV
  | some k, some l => some (.fro sz (k - l) (fun j c => g (j + l) c), none)
  | _, _ => none
def upTo (e : T V) (lo : Option Opd) : Option Nat → Option Nat
  | some k => placeO e lo 0 k
  | none => none
def ySlc (e : T V) (h : Heap) (sz : Nat) (lo hi mx : Option Opd) : Option V → YV
  | some (.sl y sz' off n cap) => match Nat.beq sz sz', mx with
    | true, none => match h.get y with
      | some (.cells _) => ySlc2 y sz off cap (placeO e hi n n) (upTo e lo (placeO e hi n n))
      | _ => none
    | _, _ => none
  | some (.fro sz' n g) => match Nat.beq sz sz', mx with
    | true, none => yFro2 sz g (placeO e hi n n) (upTo e lo (placeO e hi n n))
    | _, _ => none
  | _ => none
def yText2 (t : List Nat) : Option Nat → Option Nat → YV
  | some k, some l => some (.str ((t.drop l).take (k - l)), none)
  | _, _ => none
def yTslc (e : T V) (lo hi : Option Opd) : Option V → YV
  | some (.str t) => yText2 t (placeO e hi t.length t.length) (upTo e lo (placeO e hi t.length t.length))
  | _ => none
def yFad (off : Nat) : Option V → YV
  | some (.fpt m g) => match Nat.blt off m with | true => some (.fpt (m - off) (fun c => g (c + off)), none) | false => none
  | some (.ptr x o) => some (.ptr x (o + off), none)
  | _ => none
def yFld (agg : Bool) (off k : Nat) : Option V → YV
  | some (.agg cs) => match Nat.ble (off + k) cs.length with
    | true => ret (ofCells agg (cut cs off k))
    | false => none
  | _ => none
def yIdx (sz : Nat) : Option V → Option V → YV
  | some (.sl y sz' off n _), some (.raw (.int .i64 (.ofNat i))) => match Nat.beq sz sz' && Nat.blt i n with | true => some (.ptr y (off + i * sz), none) | false => none
  | some (.fro sz' n g), some (.raw (.int .i64 (.ofNat i))) => match Nat.beq sz sz' && Nat.blt i n with | true => some (.fpt sz (g i), none) | false => none
  | _, _ => none
def u8 : Option Nat → YV
  | some b => some (.raw (.int .u8 (.ofNat b)), none)
  | none => none
def ySix : Option V → Option V → YV
  | some (.str t), some (.raw (.int .i64 (.ofNat i))) => u8 t[i]?
  | _, _ => none
def yExt (i : Nat) : Option V → YV
  | some (.tup cs) => ret cs[i]?
  | _ => none
def withOk (ok : Bool) (c : V) (b : Bool) : V := match ok with | true => .tup [c, .raw (.bool b)] | false => c
def yLook2 (z : V) (ok : Bool) : Option (Option (Nat × V)) → YV
  | some (some (_, v)) => some (withOk ok v true, none)
  | some none => some (withOk ok z false, none)
  | none => none
def yLook1 (kt : KT) (z : V) (ok : Bool) (k : V) : Option Blk → YV
  | some (.map es _) => match kindOk kt k with | true => yLook2 z ok (findKey k es 0) | false => none
  | _ => none
def yLook (h : Heap) (kt : KT) (z : V) (ok : Bool) : Option V → Option V → YV
  | some (.mp x), some k => yLook1 kt z ok k (h.get x)
  | _, _ => none
def num (n : Nat) : YV := some (.raw (.int .i64 (.ofNat n)), none)
def yLenM : Option Blk → YV
  | some (.map es _) => num es.length
  | _ => none
def yLen (h : Heap) : Nat → Option V → YV
  | 1, some (.fro _ n _) => num n
  | 1, some (.sl _ _ _ n _) => num n
  | 1, some .emp => num 0
  | 1, some (.raw (.slice none 0 0)) => num 0
  | 0, some (.str t) => num t.length
  | 2, some (.mp y) => yLenM (h.get y)
  | _, _ => none
def yMost (mx : Bool) : Option (List V) → YV
  | some cs => match ints cs with
    | some (a :: r) => some (.raw (.int .i64 (mostI mx a r)), none)
    | _ => none
  | none => none
def yRng2 (nm y : Nat) : Option Blk → YV
  | some (.map _ clock) => some (.ptr nm 0, some (.it (some y) clock [] clock))
  | _ => none
def yRng (h : Heap) (nm : Nat) : Option V → YV
  | some (.mp y) => yRng2 nm y (h.get y)
  | some (.raw (.map none)) => some (.ptr nm 0, some (.it none 0 [] 0))
  | _ => none
def yEnt3 : Option (V × V × Nat) → YV
  | some (k, v, _) => some (.tup [k, v], none)
  | none => none
def yEnt2 (last : Nat) : Option Nat → Option Blk → YV
  | some n, some (.map es clock) => match Nat.beq clock last with | true => yEnt3 (es.find? fun e => Nat.beq e.2.2 n) | false => none
  | _, _ => none
def yEnt1 (h : Heap) : Option Blk → YV
  | some (.it (some m) _ seen last) => yEnt2 last seen.getLast? (h.get m)
  | _ => none
def yEnt (h : Heap) : Option V → YV
  | some (.ptr y 0) => yEnt1 h (h.get y)
  | _ => none

/-- What a quiet operation comes to. -/
def yv (e : T V) (h : Heap) (nm : Nat) : COp → YV
  | .mv x => ret (opd e x)
  | .pick c a b => yPick e a b (opd e c)
  | .alloc zs => some (.ptr nm 0, some (.cells zs))
  | .box k x => yBox nm k (opd e x)
  | .build zs ps => yBuild (buildv e zs ps)
  | .lit sz len ps => yLit nm sz len ps.length (litv e sz 0 ps)
  | .load agg k a => yLoad h agg k (opd e a)
  | .nilck x => yNil (opd e x)
  | .bin kd op x y => yBin kd op (opd e x) (opd e y)
  | .beq ks op x y => yBeq ks op (opd e x) (opd e y)
  | .un op x => yUn op (opd e x)
  | .conv k x => yConv k (opd e x)
  | .mkfn f first cap => yFn f (opds e first) (opds e cap)
  | .mkmap => some (.mp nm, some (.map [] 0))
  | .mksl sz bytes zs l => yMake nm sz bytes zs (opd e l)
  | .slc sz x lo hi mx => ySlc e h sz lo hi mx (opd e x)
  | .tslc x lo hi => yTslc e lo hi (opd e x)
  | .fad off x => yFad off (opd e x)
  | .fld agg off k x => yFld agg off k (opd e x)
  | .idx sz x i => yIdx sz (opd e x) (opd e i)
  | .six x i => ySix (opd e x) (opd e i)
  | .ext x i => yExt i (opd e x)
  | .look kt z m k ok => yLook h kt z ok (opd e m) (opd e k)
  | .len kd x => yLen h kd (opd e x)
  | .most mx xs => yMost mx (opds e xs)
  | .rng x => yRng h nm (opd e x)
  | .ent x => yEnt h (opd e x)
  | _ => none

/-! forcing: a value is told in its own form -/
def forceN (n : Nat) (q : Nat → Bool) : Bool := match n with
  | 0 => q 0
  | m + 1 => q (Nat.succ m)
def forceI (n : Int) (q : Int → Bool) : Bool := match n with
  | .ofNat m => forceN m fun m => q (.ofNat m)
  | .negSucc m => forceN m fun m => q (.negSucc m)
def forceB (b : Bool) (q : Bool → Bool) : Bool := match b with
  | true => q true
  | false => q false
def forceL (l : List Nat) (q : List Nat → Bool) : Bool := match l with
  | [] => q []
  | a :: r => forceN a fun a => forceL r fun r => q (a :: r)
def force1 (v : V) (q : V → Bool) : Bool := match v with
  | .raw (.int k n) => forceI n fun n => q (.raw (.int k n))
  | .raw (.bool b) => forceB b fun b => q (.raw (.bool b))
  | .str l => forceL l fun l => q (.str l)
  | .sl x sz off len cap => forceN x fun x => forceN off fun off => forceN len fun len => match cap with
    | some c => forceN c fun c => q (.sl x sz off len (some c))
    | none => q (.sl x sz off len none)
  | .ptr x off => forceN x fun x => forceN off fun off => q (.ptr x off)
  | .mp x => forceN x fun x => q (.mp x)
  | v => q v
def forceC (l : List V) (q : List V → Bool) : Bool := match l with
  | [] => q []
  | a :: r => force1 a fun a => forceC r fun r => q (a :: r)
def force (v : V) (q : V → Bool) : Bool := match v with
  | .agg cs => forceC cs fun cs => q (.agg cs)
  | .tup cs => forceC cs fun cs => q (.tup cs)
  | v => force1 v q
def forceE (l : List (V × V × Nat)) (q : List (V × V × Nat) → Bool) : Bool := match l with
  | [] => q []
  | (k, v, n) :: r => force k fun k => force v fun v => forceE r fun r => q ((k, v, n) :: r)
def forceBlk (b : Blk) (q : Blk → Bool) : Bool := match b with
  | .cells cs => forceC cs fun cs => q (.cells cs)
  | .map es c => forceE es fun es => forceN c fun c => q (.map es c)
  | b => q b

theorem forceN_eq (n : Nat) (q : Nat → Bool) : forceN n q = q n := by cases n <;> rfl
theorem forceI_eq (n : Int) (q : Int → Bool) : forceI n q = q n := by cases n <;> simp [forceI, forceN_eq]
theorem forceB_eq (b : Bool) (q : Bool → Bool) : forceB b q = q b := by cases b <;> rfl
theorem forceL_eq : ∀ (l : List Nat) (q : List Nat → Bool), forceL l q = q l
  | [], q => rfl
  | a :: r, q => by simp only [forceL, forceN_eq, forceL_eq r]
theorem force1_eq (v : V) (q : V → Bool) : force1 v q = q v := by
  unfold force1
  split <;> simp only [forceI_eq, forceB_eq, forceL_eq, forceN_eq]
  split <;> simp only [forceN_eq]
theorem forceC_eq : ∀ (l : List V) (q : List V → Bool), forceC l q = q l
  | [], q => rfl
  | a :: r, q => by simp only [forceC, force1_eq, forceC_eq r]
theorem force_eq (v : V) (q : V → Bool) : force v q = q v := by
  unfold force
  split <;> simp only [forceC_eq, force1_eq]
theorem forceE_eq : ∀ (l : List (V × V × Nat)) (q : List (V × V × Nat) → Bool), forceE l q = q l
  | [], q => rfl
  | (k, v, n) :: r, q => by simp only [forceE, force_eq, forceE_eq r]
theorem forceBlk_eq (b : Blk) (q : Blk → Bool) : forceBlk b q = q b := by
  unfold forceBlk
  split <;> simp only [forceC_eq, forceE_eq, forceN_eq]

/-! ### effects, regions, code -/

def deep : Nat := 40

/-- a value into a slot -/
def setO (e : T V) (dst : Option Nat) (v : V) (q : T V → Bool) : Bool :=
  match dst with
  | some d => force v fun v => T.putK (some v) deep e d q
  | none => q e

/-- a block is written, if it may be -/
def setB (s : S) (x : Nat) (b : Option Blk) (q : S → Bool) : Bool :=
  match s with
  | ⟨e, h, nx, pr⟩ => match memN x pr with
    | true => false
    | false => match b with
      | some b => forceBlk b fun b => T.putK (some b) deep h x fun h => q ⟨e, h, nx, pr⟩
      | none => T.putK none deep h x fun h => q ⟨e, h, nx, pr⟩

/-- the value, and the block that is made -/
def out (s : S) (dst : Option Nat) (nm : Nat) (v : V) (new : Option Blk) (q : S → Bool) : Bool :=
  match s with
  | ⟨e, h, nx, pr⟩ => match new with
    | some b => forceBlk b fun b => T.putK (some b) deep h nm fun h => setO e dst v fun e => q ⟨e, h, nx, pr⟩
    | none => setO e dst v fun e => q ⟨e, h, nx, pr⟩

/-- the elements of a slice, as cells: how many, and the cells -/
def elems (h : Heap) (sz : Nat) : V → Option (Nat × List V)
  | .sl y sz' off n _ => match h.get y, Nat.beq sz sz' with
    | some (.cells cs), true => match Nat.ble (off + n * sz) cs.length with
      | true => some (n, cut cs off (n * sz))
      | false => none
    | _, _ => none
  | .fro sz' n g => match Nat.beq sz sz' with
    | true => some (n, ((List.range n).map fun j => cellsAt (g j) 0 sz).flatten)
    | false => none
  | .emp => some (0, [])
  | .raw (.slice none 0 0) => some (0, [])
  | _ => none

/-- bytes of cells -/
def bytesOf : List V → Option (List Nat)
  | [] => some []
  | .raw (.int .u8 (.ofNat n)) :: r => match Nat.blt n 256, bytesOf r with | true, some l => some (n :: l) | _, _ => none
  | _ => none
def cellsOf : List Nat → List V
  | [] => []
  | b :: r => .raw (.int .u8 (.ofNat b)) :: cellsOf r

/-! effects, one by one -/

/-- elements into a new block -/
def appNew (s : S) (nm : Nat) (dst : Option Nat) (sz bytes : Nat) (old new : List V) (n : Nat) (q : S → Bool) : Bool :=
  match Nat.ble (n * bytes) 140737488355328 with
  | true => out s dst nm (.sl nm sz 0 n none) (some (.cells (old ++ new))) q
  | false => false
def appIn (s : S) (nm : Nat) (dst : Option Nat) (y sz off n m : Nat) (cap : Option Nat) (cs new : List V) (q : S → Bool) : Bool :=
  setB s y (some (.cells (putCells cs (off + n * sz) new))) fun s => out s dst nm (.sl y sz off (n + m) cap) none q
def appSl (s : S) (nm : Nat) (dst : Option Nat) (y sz bytes off n m : Nat) (new cs : List V) (q : S → Bool) : Option Nat → Bool
  | none => match Nat.ble (off + (n + m) * sz) cs.length with
    | true => appIn s nm dst y sz off n m none cs new q
    | false => match Nat.beq off 0 && Nat.beq (n * sz) cs.length with
      | true => setB s y none fun s => appNew s nm dst sz bytes cs new (n + m) q
      | false => false
  | some c => match Nat.ble (n + m) c with
    | true => match Nat.ble (off + (n + m) * sz) cs.length with
      | true => appIn s nm dst y sz off n m (some c) cs new q
      | false => false
    | false => match Nat.ble (off + n * sz) cs.length with
      | true => appNew s nm dst sz bytes (cut cs off (n * sz)) new (n + m) q
      | false => false
/-- append -/
def evApp (s : S) (nm : Nat) (dst : Option Nat) (sz bytes m : Nat) (new : List V) (q : S → Bool) : V → Bool
  | .raw (.slice none 0 0) => match m with
    | 0 => out s dst nm (.raw (.slice none 0 0)) none q
    | m + 1 => appNew s nm dst sz bytes [] new (Nat.succ m) q
  | .emp => match m with
    | 0 => out s dst nm .emp none q
    | m + 1 => appNew s nm dst sz bytes [] new (Nat.succ m) q
  | .fro sz' n g => match m with
    | 0 => match Nat.beq sz sz' with | true => out s dst nm (.fro sz n g) none q | false => false
    | _ + 1 => false
  | .sl y sz' off n cap => match Nat.beq sz sz' with
    | true => match s.h.get y with
      | some (.cells cs) => appSl s nm dst y sz bytes off n m new cs q cap
      | _ => false
    | false => false
  | _ => false
def evApp1 (s : S) (nm : Nat) (dst : Option Nat) (sz bytes : Nat) (q : S → Bool) : Option V → Option (Nat × List V) → Bool
  | some a, some (m, new) => evApp s nm dst sz bytes m new q a
  | _, _ => false
def elemsO (h : Heap) (sz : Nat) : Option V → Option (Nat × List V)
  | some v => elems h sz v
  | none => none

/-- nothing is told -/
def void (dst : Option Nat) (q : S → Bool) (s : S) : Bool :=
  match s with
  | ⟨e, h, nx, pr⟩ => setO e dst .any fun e => q ⟨e, h, nx, pr⟩

def evStore2 (s : S) (dst : Option Nat) (k y o : Nat) (c : List V) (q : S → Bool) : Option Blk → Bool
  | some (.cells cs) => match Nat.ble (o + k) cs.length && Nat.beq c.length k && allOne c with
    | true => setB s y (some (.cells (putCells cs o c))) (void dst q)
    | false => false
  | _ => false
def evStore (s : S) (dst : Option Nat) (k : Nat) (q : S → Bool) : Option V → Option V → Bool
  | some (.ptr y o), some c => evStore2 s dst k y o c.cells q (s.h.get y)
  | _, _ => false
def evMup3 (s : S) (dst : Option Nat) (y : Nat) (k c : V) (es : List (V × V × Nat)) (clock : Nat) (q : S → Bool) : Option (Option (Nat × V)) → Bool
  | some (some (i, _)) => setB s y (some (.map (es.modify i fun p => (k, c, p.2.2)) clock)) (void dst q)
  | some none => setB s y (some (.map (es ++ [(k, c, clock)]) (clock + 1))) (void dst q)
  | none => false
def evMup2 (s : S) (dst : Option Nat) (kt : KT) (y : Nat) (k c : V) (q : S → Bool) : Option Blk → Bool
  | some (.map es clock) => match kindOk kt k && c.one with
    | true => evMup3 s dst y k c es clock q (findKey k es 0)
    | false => false
  | _ => false
def evMup (s : S) (dst : Option Nat) (kt : KT) (q : S → Bool) : Option V → Option V → Option V → Bool
  | some (.mp y), some k, some c => evMup2 s dst kt y k c q (s.h.get y)
  | _, _, _ => false
def evDel3 (s : S) (dst : Option Nat) (y : Nat) (es : List (V × V × Nat)) (clock : Nat) (q : S → Bool) : Option (Option (Nat × V)) → Bool
  | some (some (i, _)) => setB s y (some (.map (es.eraseIdx i) clock)) (void dst q)
  | some none => setB s y (some (.map es clock)) (void dst q)
  | none => false
def evDel2 (s : S) (dst : Option Nat) (kt : KT) (y : Nat) (k : V) (q : S → Bool) : Option Blk → Bool
  | some (.map es clock) => match kindOk kt k with
    | true => evDel3 s dst y es clock q (findKey k es 0)
    | false => false
  | _ => false
def evDel (s : S) (dst : Option Nat) (kt : KT) (q : S → Bool) : Option V → Option V → Bool
  | some (.mp y), some k => evDel2 s dst kt y k q (s.h.get y)
  | _, _ => false
def evNxt3 (s : S) (nm : Nat) (dst : Option Nat) (y m since clock : Nat) (seen : List Nat) (q : S → Bool) : Option (Option (V × V × Nat)) → Bool
  | some none => out s dst nm (.tup [.raw (.bool false)]) none q
  | some (some (k, v, n)) => setB s y (some (.it (some m) since (seen ++ [n]) clock)) fun s => out s dst nm (.tup [.raw (.bool true), k, v]) none q
  | none => false
def evNxt2 (s : S) (nm : Nat) (dst : Option Nat) (y m since : Nat) (seen : List Nat) (last : Nat) (q : S → Bool) : Option Blk → Bool
  | some (.map es clock) => evNxt3 s nm dst y m since clock seen q (nextOf es since seen last)
  | _ => false
def evNxt1 (s : S) (nm : Nat) (dst : Option Nat) (y : Nat) (q : S → Bool) : Option Blk → Bool
  | some (.it none _ _ _) => out s dst nm (.tup [.raw (.bool false)]) none q
  | some (.it (some m) since seen last) => evNxt2 s nm dst y m since seen last q (s.h.get m)
  | _ => false
def evNxt (s : S) (nm : Nat) (dst : Option Nat) (q : S → Bool) : Option V → Bool
  | some (.ptr y 0) => evNxt1 s nm dst y q (s.h.get y)
  | _ => false
def evBytes (s : S) (nm : Nat) (dst : Option Nat) (q : S → Bool) : Option V → Bool
  | some (.str t) => out s dst nm (.sl nm 1 0 t.length none) (some (.cells (cellsOf t))) q
  | _ => false
def evText2 (s : S) (nm : Nat) (dst : Option Nat) (q : S → Bool) : Option (List Nat) → Bool
  | some t => out s dst nm (.str t) none q
  | none => false
def evText (s : S) (nm : Nat) (dst : Option Nat) (q : S → Bool) : Option (Nat × List V) → Bool
  | some (_, cs) => evText2 s nm dst q (bytesOf cs)
  | none => false
def evCopy3 (s : S) (nm : Nat) (dst : Option Nat) (sz y off n m : Nat) (new : List V) (q : S → Bool) : Option Blk → Bool
  | some (.cells cs) => match Nat.ble (off + n * sz) cs.length with
    | true => setB s y (some (.cells (putCells cs off (new.take (Nat.min m n * sz))))) fun s => out s dst nm (.raw (.int .i64 (.ofNat (Nat.min m n)))) none q
    | false => false
  | _ => false
def evCopy (s : S) (nm : Nat) (dst : Option Nat) (sz : Nat) (q : S → Bool) : Option V → Option (Nat × List V) → Bool
  | some (.sl y sz' off n _), some (m, new) => match Nat.beq sz sz' with
    | true => evCopy3 s nm dst sz y off n m new q (s.h.get y)
    | false => false
  | _, _ => false
def evQuiet (s : S) (nm : Nat) (dst : Option Nat) (q : S → Bool) : YV → Bool
  | some (v, new) => out s dst nm v new q
  | none => false

abbrev Calling := Nat → List V → Heap → Nat → List Nat → (V → Heap → Nat → Bool) → Bool

def evCall (call : Calling) (s : S) (nm : Nat) (dst : Option Nat) (q : S → Bool) : Option V → Option (List V) → Bool
  | some (.fn (.func g) first cap), some cs => match s with
    | ⟨e, h, nx, pr⟩ => call g (first ++ cs ++ cap) h nx pr fun v h nx => out ⟨e, h, nx, pr⟩ dst nm v none q
  | _, _ => false

/-- not quiet -/
def COp.eff : COp → Bool
  | .store _ _ _ | .mup _ _ _ _ | .del _ _ _ | .nxt _ | .bytes _ | .text _ | .app _ _ _ _ | .copy _ _ _ | .call _ _ => true
  | _ => false

/-- One operation. 'call': a function, by its number. -/
def evOp (call : Calling) (s : S) (nm : Nat) (dst : Option Nat) (q : S → Bool) : COp → Bool
  | .store k a x => evStore s dst k q (opd s.env a) (opd s.env x)
  | .mup kt m k v => evMup s dst kt q (opd s.env m) (opd s.env k) (opd s.env v)
  | .del kt m k => evDel s dst kt q (opd s.env m) (opd s.env k)
  | .nxt x => evNxt s nm dst q (opd s.env x)
  | .bytes x => evBytes s nm dst q (opd s.env x)
  | .text x => evText s nm dst q (elemsO s.h 1 (opd s.env x))
  | .app sz bytes a b => evApp1 s nm dst sz bytes q (opd s.env a) (elemsO s.h sz (opd s.env b))
  | .copy sz d x => evCopy s nm dst sz q (opd s.env d) (elemsO s.h sz (opd s.env x))
  | .call f xs => evCall call s nm dst q (opd s.env f) (opds s.env xs)
  | o => evQuiet s nm dst q (yv s.env s.h nm o)

/-- an operation whose guard says no -/
def skipped (s : S) (dst : Option Nat) (q : S → Bool) : Bool :=
  match s with
  | ⟨e, h, nx, pr⟩ => setO e dst (.tup []) fun e => q ⟨e, h, nx, pr⟩
def evGd (want : Bool) (go skip : Bool) : Option V → Bool
  | some (.raw (.bool b)) => match eqB b want with | true => go | false => skip
  | some (.tup []) => skip
  | _ => false

/-- ... with its guard -/
def evG (call : Calling) (s : S) (nm : Nat) (c : COper) (q : S → Bool) : Bool :=
  match c with
  | ⟨dst, op, none⟩ => evOp call s nm dst q op
  | ⟨dst, op, some (t, want)⟩ => evGd want (evOp call s nm dst q op) (skipped s dst q) (s.env.get t)

/-- A region in the text's order. -/
def evR (call : Calling) : Nat → List COper → S → (S → Bool) → Bool
  | _, [], s, q => q s
  | nm, c :: r, s, q => evG call s nm c fun s => evR call (Nat.succ nm) r s q

/-- operations that hang on their operands alone -/
def COp.pure : COp → Bool
  | .mv _ | .pick _ _ _ | .build _ _ | .nilck _ | .bin _ _ _ _ | .beq _ _ _ _ | .un _ _ | .conv _ _ | .mkfn _ _ _ | .slc _ _ _ _ _ | .fad _ _ | .fld _ _ _ _ | .idx _ _ _ | .six _ _ | .ext _ _ | .len 0 _ | .len 1 _ | .most _ _ | .tslc _ _ _ => true
  | _ => false

/-- the block that an operation reads; none: it may not be taken first -/
def reads : COp → Option V → Option (Option Nat)
  | .load _ _ _, some (.ptr y _) => some (some y)
  | .load _ _ _, some (.fpt _ _) => some none
  | .look _ _ _ _ _, some (.mp y) => some (some y)
  | .len 2 _, some (.mp y) => some (some y)
  | .load _ _ _, _ => none
  | .look _ _ _ _ _, _ => none
  | o, _ => match o.pure with | true => some none | false => none
def COp.addr : COp → Opd
  | .load _ _ a => a
  | .look _ _ m _ _ => m
  | .len 2 x => x
  | _ => .bad

/-- loads that were taken first: which operations, and which blocks they read -/
abbrev Held := List (Nat × Nat)

def evTake3 (s : S) (dst : Option Nat) (i : Nat) (D : Held) (v : V) (q : Held → S → Bool) : Option (Option Nat) → Bool
  | some (some y) => match s with
    | ⟨e, h, nx, pr⟩ => setO e dst v fun e => q ((i, y) :: D) ⟨e, h, nx, pr⟩
  | some none => match s with
    | ⟨e, h, nx, pr⟩ => setO e dst v fun e => q D ⟨e, h, nx, pr⟩
  | none => false
def evTake2 (s : S) (dst : Option Nat) (i : Nat) (D : Held) (q : Held → S → Bool) (r : Option (Option Nat)) : YV → Bool
  | some (v, none) => evTake3 s dst i D v q r
  | _ => false
/-- an operation that is taken first: the block that is read must not be written by what does not wait for it -/
def evTake (s : S) (i nm : Nat) (D : Held) (q : Held → S → Bool) : COper → Bool
  | ⟨dst, op, none⟩ => evTake2 s dst i D q (reads op (opd s.env op.addr)) (yv s.env s.h nm op)
  | ⟨dst, op, some (t, want)⟩ => evGd want (evTake2 s dst i D q (reads op (opd s.env op.addr)) (yv s.env s.h nm op)) (skipped s dst (q D)) (s.env.get t)

inductive Plan where
  | take (i : Nat) (c : COper)
  | alts (l : List (Nat × ROp))
  | done

def isReady (r : ROp) (i L : Nat) : Bool := !Nat.testBit L i && Nat.beq (Nat.land r.pre L) r.pre

def firstTake (full L : Nat) : Nat → List ROp → Option (Nat × COper)
  | _, [] => none
  | i, r :: l => match isReady r i L && r.tk && Nat.beq (Nat.land (Nat.lor r.far L) full) full with
    | true => some (i, r.c)
    | false => firstTake full L (Nat.succ i) l
def readyOf (L : Nat) : Nat → List ROp → List (Nat × ROp)
  | _, [] => []
  | i, r :: l => match isReady r i L with
    | true => (i, r) :: readyOf L (Nat.succ i) l
    | false => readyOf L (Nat.succ i) l
def plan (rs : List ROp) (full L : Nat) : Plan :=
  match firstTake full L 0 rs with
  | some (i, c) => .take i c
  | none => match readyOf L 0 rs with
    | [] => .done
    | l => .alts l

def allB {α : Type} (p : α → Bool) : List α → Bool
  | [] => true
  | a :: r => match p a with | true => allB p r | false => false

/-- what is still held when an operation comes up -/
def still (pre : Nat) : Held → Held
  | [] => []
  | (i, y) :: r => match Nat.testBit pre i with
    | true => still pre r
    | false => (i, y) :: still pre r
def addPr (pr : List Nat) : Held → List Nat
  | [] => pr
  | (_, y) :: r => y :: addPr pr r
def stillK (pre : Nat) : Held → (Held → Bool) → Bool
  | [], q => q []
  | (i, y) :: r, q => match Nat.testBit pre i with
    | true => stillK pre r q
    | false => forceN i fun i => forceN y fun y => stillK pre r fun r => q ((i, y) :: r)
def addPrK (pr : List Nat) : Held → (List Nat → Bool) → Bool
  | [], q => q pr
  | (_, y) :: r, q => forceN y fun y => addPrK pr r fun r => q (y :: r)
theorem stillK_eq (pre : Nat) : ∀ (D : Held) (q : Held → Bool), stillK pre D q = q (still pre D)
  | [], q => rfl
  | (i, y) :: r, q => by
    simp only [stillK, still, forceN_eq]
    cases Nat.testBit pre i <;> simp only [stillK_eq pre r]
theorem addPrK_eq (pr : List Nat) : ∀ (D : Held) (q : List Nat → Bool), addPrK pr D q = q (addPr pr D)
  | [], q => rfl
  | (i, y) :: r, q => by simp only [addPrK, addPr, forceN_eq, addPrK_eq pr r]
def setPr (pr : List Nat) (q : S → Bool) : S → Bool
  | ⟨e, h, nx, _⟩ => q ⟨e, h, nx, pr⟩

/-- one that may come up next -/
def evAlt (call : Calling) (nm : Nat) (D : Held) (r : ROp) (k : Held → S → Bool) : S → Bool
  | ⟨e, h, nx, pr⟩ => stillK r.pre D fun D => addPrK pr D fun pr' => evG call ⟨e, h, nx, pr'⟩ nm r.c (setPr pr (k D))

/-- A region whose order is drawn. L: which have come up, as bits. -/
def evD (call : Calling) (base : Nat) (rs : List ROp) (full : Nat) : Nat → Nat → Held → S → (S → Bool) → Bool
  | 0, L, D, s, q => match plan rs full L with
    | .done => q s
    | _ => false
  | f + 1, L, D, s, q => match plan rs full L with
    | .done => q s
    | .take i c => forceN (Nat.lor L (Nat.pow 2 i)) fun L' => evTake s i (Nat.add base i) D (fun D s => evD call base rs full f L' D s q) c
    | .alts l => allB (fun p => forceN (Nat.lor L (Nat.pow 2 p.1)) fun L' => evAlt call (Nat.add base p.1) D p.2 (fun D s => match evD call base rs full f L' D s q with | true => true | false => false) s) l

inductive Out where
  | normal (s : S)
  | exit (id : Nat) (s : S)
  | ret (s : S)

/-- a function's result -/
def resv (e : T V) (h : Heap) : Res → Option V
  | .tmp t => e.get t
  | .cell t agg k => match e.get t with
    | some (.ptr x o) => match h.get x with
      | some (.cells cs) => match Nat.ble (o + k) cs.length with
        | true => ofCells agg (cut cs o k)
        | false => none
      | _ => none
    | _ => none
  | .bad => none
def ress (e : T V) (h : Heap) : List Res → Option (List V)
  | [] => some []
  | r :: l => match resv e h r, ress e h l with
    | some v, some l => some (v :: l)
    | _, _ => none
def result (e : T V) (h : Heap) (l : List Res) : Option V :=
  match ress e h l with
  | some [v] => some v
  | some vs => some (.tup vs)
  | none => none

def params : Nat → List V → T V → (T V → Bool) → Bool
  | _, [], e, q => q e
  | k, c :: r, e, q => force c fun c => T.putK (some c) deep e k fun e => params (Nat.succ k) r e q

/-- what a call goes on with -/
def onRet (res : List Res) (q : V → Heap → Nat → Bool) : Out → Bool
  | .exit _ _ => false
  | .normal s => match result s.env s.h res with
    | some v => force v fun v => q v s.h s.nx
    | none => false
  | .ret s => match result s.env s.h res with
    | some v => force v fun v => q v s.h s.nx
    | none => false
def enter (go : CCode → S → (Out → Bool) → Bool) (args : List V) (h : Heap) (nx : Nat) (pr : List Nat) (q : V → Heap → Nat → Bool) : Option CFn → Bool
  | some cf => match Nat.ble args.length cf.n with
    | true => params 0 args .e fun e => go cf.code ⟨e, h, nx, pr⟩ (onRet cf.res q)
    | false => false
  | none => false
def fnOf (P : Program) : Option Func → Option CFn
  | some fn => tFn P fn
  | none => none
/-- What is known of functions: where it is told, they are not looked into. -/
abbrev Prims := Nat → Heap → List V → Option V
def callF (P : Program) (prim : Prims) (go : CCode → S → (Out → Bool) → Bool) : Calling := fun f args h nx pr q =>
  match prim f h args with
  | some v => force v fun v => q v h nx
  | none => enter go args h nx pr q (fnOf P P.funcs[f]?)

def runRegion (call : Calling) (l : List COper) (q : Out → Bool) : S → Bool
  | ⟨e, h, nx, pr⟩ => forceN (Nat.add nx l.length) fun nx' => evR call nx l ⟨e, h, nx', pr⟩ fun s => q (.normal s)
def runDrawn (call : Calling) (l : List ROp) (q : Out → Bool) : S → Bool
  | ⟨e, h, nx, pr⟩ => forceN (Nat.add nx l.length) fun nx' => evD call nx l (Nat.sub (Nat.pow 2 l.length) 1) l.length 0 [] ⟨e, h, nx', pr⟩ fun s => q (.normal s)
def thenK (k : S → (Out → Bool) → Bool) (q : Out → Bool) : Out → Bool
  | .normal s => k s q
  | o => q o
def blockK (id : Nat) (q : Out → Bool) : Out → Bool
  | .exit id' s => match Nat.beq id' id with
    | true => q (.normal s)
    | false => q (.exit id' s)
  | o => q o
def condK (a b : Bool) : Option V → Bool
  | some (.raw (.bool true)) => a
  | some (.raw (.bool false)) => b
  | _ => false

/-- Code, to a depth. -/
def run (P : Program) (prim : Prims) : Nat → CCode → S → (Out → Bool) → Bool
  | 0, _, _, _ => false
  | n + 1, c, s, q => match c with
    | .bad => false
    | .skip => q (.normal s)
    | .region l => runRegion (callF P prim (run P prim n)) l q s
    | .drawn l => runDrawn (callF P prim (run P prim n)) l q s
    | .seq a b => run P prim n a s (thenK (run P prim n b) q)
    | .cond x a b => condK (run P prim n a s q) (run P prim n b s q) (opd s.env x)
    | .block id c => run P prim n c s (blockK id q)
    | .loop c => run P prim n c s (thenK (run P prim n (.loop c)) q)
    | .exit id => q (.exit id s)
    | .ret => q (.ret s)

/-- A call from nothing. -/
def start (P : Program) (prim : Prims) (n : Nat) (f : Nat) (args : List V) (q : V → Bool) : Bool :=
  enter (run P prim n) args .e 0 [] (fun v _ _ => q v) (fnOf P P.funcs[f]?)

def isTrue : V → Bool
  | .raw (.bool b) => b
  | _ => false

end Go.VM
