/-
  The shadow machine, part B: its code, the compiler from the model's code, and the evaluator. Plain Lean; no program in sight.
-/
import Derived.Test.YthfijonopinghaaGreatDoorShA
import Derived.Orders
set_option linter.unusedSimpArgs false
set_option linter.unusedVariables false
namespace Go.Sh
noncomputable section

/-! ### Code -/
inductive SX where
  | tmp (t : Nat)
  | const (v : SV)
  | glob (g : Nat)
  | func (f : FuncId)

inductive LOp where
  | mov (x : SX)
  | pick (c a b : SX)
  | build (zero : List SV) (parts : List (Nat × Nat × SX))
  | nilCheck (x : SX)
  | bin (op : BinOp) (x y : SX)
  | binNil (neg : Bool) (k : Nat) (x y : SX)
  | binB (neg : Bool) (x y : SX)
  | binS (neg : Bool) (offs : List (Nat × Nat)) (x y : SX)
  | un (op : UnOp) (x : SX)
  | convInt (k : IntKind) (x : SX)
  | convRune (x : SX)
  | strId (x : SX)
  | mkIface (t : TypeId) (x : SX)
  | mkFunc (f : FuncId) (captured : List SX)
  | sliceS (x : SX) (lo hi : Option SX)
  | slice (size : Nat) (x : SX) (lo hi mx : Option SX)
  | fieldAddr (off : Nat) (x : SX)
  | field (off : Nat) (agg : Option Nat) (x : SX)
  | indexAddr (size : Nat) (x i : SX)
  | indexArr (len size : Nat) (x i : SX)
  | indexS (x i : SX)
  | extract (x : SX) (i : Nat)
  | len (x : SX)
  | lenS (x : SX)
  | cap (x : SX)
  | minmax (max : Bool) (xs : List SX)
inductive MOp where
  | alloc (elem : TypeId) (zero : List SV)
  | box (elem : TypeId) (x : SX)
  | buildSlice (elem : TypeId) (size len : Nat) (zero : List SV) (parts : List (Nat × SX))
  | load (agg : Option Nat) (x : SX)
  | store (size : Nat) (x v : SX)
  | convBytes (elem : TypeId) (x : SX)
  | convStr (x : SX)
  | mkMap
  | mkSlice (elem : TypeId) (size bytes : Nat) (zero : List SV) (l c : SX)
  | lookup (kk : Nat) (zero : SV) (ok : Bool) (x k : SX)
  | mapUpdate (kk : Nat) (x k v : SX)
  | delete (kk : Nat) (x k : SX)
  | lenMap (x : SX)
  | range (x : SX)
  | next (x : SX)
  | entry (x : SX)
  | append (elem : TypeId) (size bytes : Nat) (s x : SX)
  | appendZ (elem : TypeId) (size bytes : Nat) (zero : List SV) (s n : SX)
  | same (x : SX)
  | bad
  | copy (size : Nat) (d s : SX)
  | clear (zero : List SV) (x : SX)
inductive SOp where
  | loc (o : LOp)
  | mem (o : MOp)
  | call (f : SX) (args : List SX)
def SOp.loud : SOp → Bool
  | .loc _ => false
  | _ => true

structure SOper where
  dst : Option Nat
  op : SOp
  guard : Option (Nat × Bool)

inductive SCode where
  | skip
  | region (ops : List SOper)
  | draw (ops : List (SOper × Nat))      -- each with the mask of those that stand ahead of it
  | seq (a b : SCode)
  | cond (c : SX) (a b : SCode)
  | block (id : Nat) (c : SCode)
  | loop (c : SCode)
  | rangeFunc (f : SX) (params : List Nat) (assign body : SCode)
  | exit (id : Nat)
  | scope (c : SCode)
  | ret
  | bad

inductive SRes where
  | tmp (t : Nat)
  | cell (t : Nat) (agg : Option Nat)

inductive SExt where
  | indexByte
  deriving DecidableEq

inductive SBody where
  | code (ntmps : Nat) (results : List SRes) (c : SCode)
  | ext (x : SExt)

/-! ### Compiling the model's code -/
def cvalF : Nat → Value → Option SV
  | 0, _ => none
  | n + 1, v =>
    match v with
    | .bool b => some (.bool b)
    | .int k i => some (.int k i)
    | .string s => some (.str (Str.of s))
    | .pointer none => some (.ptr none)
    | .slice none l c => if l = 0 ∧ c = 0 then some (.slice none 0 (.kn 0)) else none
    | .map none => some (.map none)
    | .nilFunc => some .nilFunc
    | .nilIface => some .nilIface
    | .agg cs => (cs.toList.mapM (cvalF n)).map .agg
    | .tuple cs => (cs.toList.mapM (cvalF n)).map .tuple
    | _ => none
def cval (v : Value) : Option SV := cvalF 4 v

def compX : Operand → Option SX
  | .tmp t => some (.tmp t)
  | .const v => (cval v).map .const
  | .global g => some (.glob g)
  | .func f => some (.func f)

section
variable (P : Program)
def sizeT (t : TypeId) : Option Nat := (P.info? t).map (·.size)
def bytesT (t : TypeId) : Option Nat := (P.info? t).map (·.bytes)
def zeroT (t : TypeId) : Option SV := ((P.info? t).bind (·.zero)).bind cval
/-- none: one cell; some n: a struct or an array of n cells. -/
def aggT (t : TypeId) : Option (Option Nat) :=
  match P.underlying t with
  | some (.struct _) | some (.array _ _) => (sizeT P t).map some
  | some _ => some none
  | none => none
/-- Types whose values are held against each other as they are: 0 bools, 1 whole numbers, 2 strings. -/
def kindT (t : TypeId) : Option Nat :=
  match P.underlying t with
  | some .bool => some 0
  | some (.int _) => some 1
  | some .string => some 2
  | _ => none
/-- Types that have nil: 0 pointers, 1 slices, 2 maps, 3 functions. -/
def nilT (t : TypeId) : Option Nat :=
  match P.underlying t with
  | some (.pointer _) => some 0
  | some (.slice _) => some 1
  | some (.map _ _) => some 2
  | some (.func ..) => some 3
  | _ => none
def structOffs (t : TypeId) : Option (List (Nat × Nat)) :=
  match P.underlying t with
  | some (.struct fields) =>
    if P.stoodInHeld t || P.eqGuardType P.depth t then none else
    fields.toList.mapM fun f => if f.name != "_" && sizeT P f.type == some 1 then (kindT P f.type).map fun k => (f.offset, k) else none
  | _ => none
/-- A map's keys: whole numbers (1) or strings (2). -/
def keyT (t : TypeId) : Option Nat :=
  match P.underlying t with
  | some (.map k _) => match P.underlying k with
    | some (.int _) => some 1
    | some .string => some 2
    | _ => none
  | _ => none

def compParts (places : Nat → Option (Nat × Nat)) (ps : List (Nat × Operand)) : Option (List (Nat × Nat × SX)) :=
  ps.mapM fun (i, x) => match places i, compX x with
    | some (off, size), some x => some (off, size, x)
    | _, _ => none

def compOp (o : Oper) : Option SOp :=
  match o.op with
  | .move x | .assign x => (compX x).map fun q => .loc (.mov q)
  | .pick c a b => match compX c, compX a, compX b with
    | some c, some a, some b => some (.loc (.pick c a b))
    | _, _, _ => none
  | .alloc elem => (zeroT P elem).map fun z => .mem (.alloc elem z.cells)
  | .box elem x => (compX x).map fun q => .mem (.box elem q)
  | .build t parts => match P.underlying t, zeroT P t with
    | some (.struct fields), some z =>
      match fields.toList.mapM (fun f => (sizeT P f.type).map fun s => (f.offset, s)) with
      | some places => (compParts (places[·]?) parts.toList).map fun q => .loc (.build z.cells q)
      | none => none
    | some (.array _ elem), some z => match sizeT P elem with
      | some size => (compParts (fun i => some (i * size, size)) parts.toList).map fun q => .loc (.build z.cells q)
      | none => none
    | _, _ => none
  | .buildSlice t len parts => match P.underlying t with
    | some (.slice elem) => match sizeT P elem, zeroT P elem with
      | some size, some z => if len * size > 2 ^ 24 || z.cells.length != size || size == 0 then none else
        (parts.toList.mapM fun (p : Nat × Operand) => (compX p.2).map fun x => (p.1, x)).map fun q => .mem (.buildSlice elem size len z.cells q)
      | _, _ => none
    | _ => none
  | .load t x => match aggT P t, compX x with
    | some a, some x => some (.mem (.load a x))
    | _, _ => none
  | .store t x v => match sizeT P t, compX x, compX v with
    | some s, some x, some v => some (.mem (.store s x v))
    | _, _, _ => none
  | .nilCheck x => (compX x).map fun q => .loc (.nilCheck q)
  | .binOp op t x y _ => match compX x, compX y with
    | some x, some y =>
      match op with
      | .eql | .neq =>
        match kindT P t with
        | some 0 => some (.loc (.binB (op == .neq) x y))
        | some _ => some (.loc (.bin op x y))
        | none =>
          match nilT P t with
          | some k => some (.loc (.binNil (op == .neq) k x y))
          | none => (structOffs P t).map fun offs => .loc (.binS (op == .neq) offs x y)
      | _ => some (.loc (.bin op x y))
    | _, _ => none
  | .unOp op _ x => (compX x).map fun q => .loc (.un op q)
  | .convert src dst x => match compX x, P.underlying src, P.underlying dst with
    | some x, some (.int _), some (.int k) => some (.loc (.convInt k x))
    | some x, some (.int _), some .string => some (.loc (.convRune x))
    | some x, some .string, some .string => some (.loc (.strId x))
    | some x, some .string, some (.slice e) => if P.underlying e matches some (.int .u8) then (if sizeT P e == some 1 then some (.mem (.convBytes e x)) else none) else none
    | some x, some (.slice e), some .string => if P.underlying e matches some (.int .u8) then some (.mem (.convStr x)) else none
    | some x, some (.slice _), some (.slice e) => if src == dst && (P.underlying e matches some (.int .u8)) then some (.mem (.same x)) else none
    | _, _, _ => none
  | .makeInterface t x => match P.underlying t, compX x with
    | some (.interface _), _ => none
    | some _, some x => some (.loc (.mkIface t x))
    | _, _ => none
  | .makeFunc (.func f) first captured => if first.isEmpty then (captured.toList.mapM compX).map fun q => .loc (.mkFunc f q) else none
  | .makeMap _ none => some (.mem .mkMap)
  | .makeSlice t l c => match P.underlying t with
    | some (.slice elem) => match sizeT P elem, bytesT P elem, zeroT P elem, compX l, compX c with
      | some size, some bytes, some z, some l, some c => if z.cells.length != size || size == 0 then none else some (.mem (.mkSlice elem size bytes z.cells l c))
      | _, _, _, _, _ => none
    | _ => none
  | .slice t x lo hi mx => match compX x, lo.mapM compX, hi.mapM compX, mx.mapM compX with
    | some x, some lo, some hi, some mx =>
      match P.underlying t with
      | some .string => if mx.isSome then none else some (.loc (.sliceS x lo hi))
      | some (.slice elem) => (sizeT P elem).map fun s => .loc (.slice s x lo hi mx)
      | _ => none
    | _, _, _, _ => none
  | .fieldAddr s x f => match P.underlying s, compX x with
    | some (.struct fields), some x => match fields[f]? with
      | some fd => match sizeT P fd.type with
        | some s => if s = 0 then none else some (.loc (.fieldAddr fd.offset x))
        | none => none
      | none => none
    | _, _ => none
  | .field t x f => match P.underlying t, compX x with
    | some (.struct fields), some x => match fields[f]? with
      | some fd => (aggT P fd.type).map fun a => .loc (.field fd.offset a x)
      | none => none
    | _, _ => none
  | .indexAddr t x i => match P.underlying t, compX x, compX i with
    | some (.slice elem), some x, some i => (sizeT P elem).map fun s => .loc (.indexAddr s x i)
    | some (.array len elem), some x, some i => (sizeT P elem).map fun s => .loc (.indexArr len s x i)
    | _, _, _ => none
  | .index t x i => match P.underlying t, compX x, compX i with
    | some .string, some x, some i => some (.loc (.indexS x i))
    | _, _, _ => none
  | .lookup t x k ok => match P.underlying t, compX x, compX k with
    | some (.map _ elem), some x, some k => match keyT P t with
      | some kk => (zeroT P elem).map fun z => .mem (.lookup kk z ok x k)
      | none => none
    | _, _, _ => none
  | .mapUpdate t m k v | .insert t m k v => match compX m, compX k, compX v with
    | some m, some k, some v => match keyT P t with
      | some kk => some (.mem (.mapUpdate kk m k v))
      | none => none
    | _, _, _ => none
  | .range t x => match P.underlying t, compX x with
    | some (.map _ _), some x => some (.mem (.range x))
    | _, _ => none
  | .next x isString => if isString then none else (compX x).map fun q => .mem (.next q)
  | .entry x => (compX x).map fun q => .mem (.entry q)
  | .extract x i => (compX x).map fun x => .loc (.extract x i)
  | .call c => match c.callee, c.args.toList.mapM compX with
    | .value f, some args => (compX f).map fun f => .call f args
    | .builtin b, some args => match b, args, c.argTypes.toList with
      | .len, [x], [t] => match P.underlying t with
        | some .string => some (.loc (.lenS x))
        | some (.slice _) => some (.loc (.len x))
        | some (.map _ _) => some (.mem (.lenMap x))
        | _ => none
      | .cap, [x], [t] => match P.underlying t with
        | some (.slice _) => some (.loc (.cap x))
        | _ => none
      | .max, xs, _ => some (.loc (.minmax true xs))
      | .min, xs, _ => some (.loc (.minmax false xs))
      | .append, [s, x], [t, u] => match P.underlying t, P.underlying u with
        | some (.slice elem), some (.slice _) | some (.slice elem), some .string => match sizeT P elem, bytesT P elem, zeroT P elem with
          | some size, some bytes, some z => if size == 0 || bytes == 0 || z.cells.length != size then none else some (.mem (.append elem size bytes s x))
          | _, _, _ => none
        | some (.slice elem), some (.int _) => match sizeT P elem, bytesT P elem, zeroT P elem with
          | some size, some bytes, some z => if size == 0 || bytes == 0 || z.cells.length != size then none else some (.mem (.appendZ elem size bytes z.cells s x))
          | _, _, _ => none
        | _, _ => none
      | .copy, [d, s], [t, _] => match P.underlying t with
        | some (.slice elem) => (sizeT P elem).map fun size => .mem (.copy size d s)
        | _ => none
      | .delete, [m, k], [t, _] => match keyT P t with
        | some kk => some (.mem (.delete kk m k))
        | none => none
      | .clear, [x], [t] => match P.underlying t with
        | some (.slice elem) => match sizeT P elem, zeroT P elem with
          | some size, some z => if z.cells.length != size || size == 0 then none else some (.mem (.clear z.cells x))
          | _, _ => none
        | _ => none
      | _, _, _ => none
    | _, _ => none
  | _ => none

/-- A guard: the temporary of the operation that it hangs on. -/
def compGuard (ops : Array Oper) : Option (Nat × Bool) → Option (Option (Nat × Bool))
  | none => some none
  | some (j, b) => match (ops[j]?).bind (·.dst) with
    | some d => some (some (d, b))
    | none => none

def compOper (n : Nat) (ops : Array Oper) (o : Oper) : Option SOper :=
  match compGuard ops o.guard with
  | some g => match o.dst with
    | none => some ⟨none, (compOp P o).getD (.mem .bad), g⟩
    | some d => if d < n then some ⟨some d, (compOp P o).getD (.mem .bad), g⟩ else none
  | none => none

/-- Do the operations stand in an order that their edges let in? -/
def inOrder (ops : Array Oper) : Bool := ops.toList.zipIdx.all fun (o, i) => o.after.all fun e => !Region.binds .any e || e.on < i

/-- Two operations of which neither stands ahead of the other touch no temporary in common. -/
def apartAll (ops : Array Oper) (b : Array Nat) : Bool := ops.toList.zipIdx.all fun (y, j) => ops.toList.zipIdx.all fun (x, i) => !Nat.blt i j || (b.getD j 0).testBit i || x.apart ops y

def compCode (n : Nat) : Code → Option SCode
  | .skip => some .skip
  | .label _ => some .skip
  | .region _ ops d =>
    match ops.toList.mapM (compOper P n ops) with
    | none => none
    | some l =>
      if d then
        if P.follows .mixedOrders && inOrder ops && apartAll ops (Region.before ops) then some (.draw (l.zip (Region.before ops).toList)) else none
      else some (.region l)
  | .seq a b => match compCode n a, compCode n b with
    | some a, some b => some (.seq a b)
    | _, _ => none
  | .cond c a b => match compX c, compCode n a, compCode n b with
    | some c, some a, some b => some (.cond c a b)
    | _, _, _ => none
  | .block id c => (compCode n c).map (.block id)
  | .loop c => (compCode n c).map .loop
  | .rangeFunc f ps a b => match compX f, compCode n a, compCode n b with
    | some f, some a, some b => if ps.toList.all (· < n) then some (.rangeFunc f ps.toList a b) else none
    | _, _, _ => none
  | .exit id => some (.exit id)
  | .scope c => (compCode n c).map .scope
  | .ret => some .ret
  | _ => some .bad

def compRes : ResultVar → Option SRes
  | .tmp t => some (.tmp t)
  | .cell t ty => (aggT P ty).map (.cell t)

def compFunc (fn : Func) : Option SBody :=
  match fn.body with
  | some c => if fn.name == "runtime.NumGoroutine" then none else match compCode P fn.ntmps c, fn.results.toList.mapM (compRes P) with
    | some c, some rs => some (.code fn.ntmps rs c)
    | _, _ => none
  | none => if fn.name == "internal/bytealg.IndexByteString" then some (.ext .indexByte) else none
end

/-! ### Answers -/
inductive Ev (α : Type) where
  | fail : Ev α
  | ok (a : α) : Ev α
  | any (n : Nat) (k : Nat → Ev α) : Ev α      -- one of those from 0 to n
namespace Ev
variable {α β : Type}
def bind (m : Ev α) : (α → Ev β) → Ev β :=
  Ev.rec (motive := fun _ => (α → Ev β) → Ev β) (fun _ => .fail) (fun a f => f a) (fun n _ ih f => .any n fun i => ih i f) m
def of : Option α → Ev α
  | none => .fail
  | some a => .ok a
/-- All that may be answered. -/
def all (Q : α → Prop) : Ev α → Prop
  | .fail => False
  | .ok a => Q a
  | .any n k => ∀ i, i ≤ n → (k i).all Q
theorem all_bind {Q : β → Prop} {f : α → Ev β} : ∀ (m : Ev α), (m.bind f).all Q ↔ m.all fun a => (f a).all Q
  | .fail => Iff.rfl
  | .ok _ => Iff.rfl
  | .any n k => forall_congr' fun i => forall_congr' fun _ => all_bind (k i)
theorem all_mono {Q Q' : α → Prop} (h : ∀ a, Q a → Q' a) : ∀ (m : Ev α), m.all Q → m.all Q'
  | .fail, x => x
  | .ok a, x => h a x
  | .any _ k, x => fun i hi => all_mono h (k i) (x i hi)
end Ev

/-! ### The heap -/
inductive LState where
  | ready | busy | done | exhausted
  deriving DecidableEq
inductive Jump where
  | ret
  | exit (id : Nat)
structure SLoop where
  state : LState
  pending : Option Jump
  tm : T SV
  params : List Nat
  assign : SCode
  body : SCode
  defers : Nat
inductive SObj where
  | cells (t : T SV) (n : Nat) (elem : TypeId)
  | map (es : List (SV × SV × Nat)) (clock : Nat)
  | strIter (s : Str) (pos : Nat)
  | mapIter (m : Option Nat) (since : Nat) (seen : List Nat) (last : Nat)
  | loop (l : SLoop)
  | marker

structure SSt where
  heap : T SObj
  next : Nat
  mark : Nat
  mods : List Nat

structure SAct where
  tm : T SV
  defers : List Nat
  ro : Option Nat

inductive SExit where
  | normal
  | exit (id : Nat)
  | ret

/-- What there is beside: memory that is only read; functions; functions that are taken by what was shown of them. -/
structure Env where
  base : Nat → Nat → Option SV
  funcs : T SBody
  spec : FuncId → Option (List SV → SSt → Ev (SV × SSt))

def SSt.alloc (σ : SSt) (o : SObj) : SSt := { σ with heap := σ.heap.set σ.next (some o), next := σ.next + 1 }
/-- A block that is there is turned (none: it is let go). -/
def SSt.put (σ : SSt) (k : Nat) (o : Option SObj) : SSt :=
  { σ with heap := σ.heap.set k o, mods := match Nat.blt k σ.mark with | true => k :: σ.mods | false => σ.mods }
def SSt.newCells (σ : SSt) (elem : TypeId) (cs : List SV) : SSt := σ.alloc (.cells (T.e.putList 0 cs) cs.length elem)

section
variable (E : Env)
def undefS : SV := .tuple []
def getT (tm : T SV) (t : Nat) : SV := match tm.get t with
  | some v => v
  | none => undefS
def evX (tm : T SV) : SX → SV
  | .tmp t => getT tm t
  | .const v => v
  | .glob g => .ptr (some ⟨true, g, 0⟩)
  | .func f => .func f []
def SA.add (a : SA) (n : Nat) : SA := { a with off := a.off + n }

def rd (σ : SSt) (a : SA) (i : Nat) : Option SV :=
  match a.base with
  | true => E.base a.blk (a.off + i)
  | false => match σ.heap.get a.blk with
    | some (.cells t _ _) => t.get (a.off + i)
    | _ => none
def rdL (σ : SSt) (a : SA) : Nat → Nat → Option (List SV)
  | _, 0 => some []
  | i, n + 1 => match rd E σ a i with
    | none => none
    | some v => match rdL σ a (i + 1) n with
      | none => none
      | some vs => some (v :: vs)
def wr (σ : SSt) (a : SA) (vs : List SV) : Option SSt :=
  match a.base with
  | true => none
  | false => match σ.heap.get a.blk with
    | some (.cells t n e) => if a.off + vs.length ≤ n && vs.all SV.one then some (σ.put a.blk (some (.cells (t.putList a.off vs) n e))) else none
    | _ => none
def rdVar (σ : SSt) (agg : Option Nat) (a : SA) : Option SV :=
  match agg with
  | none => rd E σ a 0
  | some n => (rdL E σ a 0 n).map .agg

/-! ### Operations without memory -/
def shiftS (left : Bool) (k : IntKind) (x y : Int) : Option SV :=
  match y with
  | .ofNat m =>
    let n := match Nat.ble m (bitsK k) with
      | true => m
      | false => bitsK k
    match left with
    | true => some (.int k (shlF k x n))
    | false => some (.int k (shrF x n))
  | .negSucc _ => none
def iAdd (k : IntKind) (x y : Int) : Option SV := some (.int k (wrapF k (Int.add x y)))
def iSub (k : IntKind) (x y : Int) : Option SV := some (.int k (wrapF k (Int.sub x y)))
def iMul (k : IntKind) (x y : Int) : Option SV := some (.int k (wrapF k (Int.mul x y)))
def iQuo (k : IntKind) (x y : Int) : Option SV := match eqI y 0 with
  | true => none
  | false => some (.int k (wrapF k (x.tdiv y)))
def iRem (k : IntKind) (x y : Int) : Option SV := match eqI y 0 with
  | true => none
  | false => some (.int k (x.tmod y))
def iAnd (k : IntKind) (x y : Int) : Option SV := some (.int k (bitsF k Nat.land (fun x y => k.wrap (BitVec.ofInt k.bits x &&& BitVec.ofInt k.bits y).toNat) x y))
def iOr (k : IntKind) (x y : Int) : Option SV := some (.int k (bitsF k Nat.lor (fun x y => k.wrap (BitVec.ofInt k.bits x ||| BitVec.ofInt k.bits y).toNat) x y))
def iXor (k : IntKind) (x y : Int) : Option SV := some (.int k (bitsF k Nat.xor (fun x y => k.wrap (BitVec.ofInt k.bits x ^^^ BitVec.ofInt k.bits y).toNat) x y))
def iAndNot (k : IntKind) (x y : Int) : Option SV := some (.int k (k.wrap (BitVec.ofInt k.bits x &&& ~~~ BitVec.ofInt k.bits y).toNat))
def iEql (_ : IntKind) (x y : Int) : Option SV := some (.bool (eqI x y))
def iNeq (_ : IntKind) (x y : Int) : Option SV := some (.bool (!eqI x y))
def iLss (_ : IntKind) (x y : Int) : Option SV := some (.bool (ltI x y))
def iLeq (_ : IntKind) (x y : Int) : Option SV := some (.bool (!ltI y x))
def iGtr (_ : IntKind) (x y : Int) : Option SV := some (.bool (ltI y x))
def iGeq (_ : IntKind) (x y : Int) : Option SV := some (.bool (!ltI x y))
def iNone (_ : IntKind) (_ _ : Int) : Option SV := none
def intOp : BinOp → IntKind → Int → Int → Option SV
  | .add => iAdd | .sub => iSub | .mul => iMul | .quo => iQuo | .rem => iRem | .and => iAnd | .or => iOr | .xor => iXor | .andNot => iAndNot
  | .eql => iEql | .neq => iNeq | .lss => iLss | .leq => iLeq | .gtr => iGtr | .geq => iGeq | .shl => iNone | .shr => iNone
def sameK (k k' : IntKind) : Bool := Nat.beq k.ctorIdx k'.ctorIdx
def bInt (op : BinOp) (k : IntKind) (a : Int) (k' : IntKind) (b : Int) : Option SV :=
  match sameK k k' with
  | true => intOp op k a b
  | false => none
def strOp (op : BinOp) (x y : Str) : Option SV :=
  match op with
  | .add => if x.len + y.len < 2 ^ 63 then some (.str (x.append y)) else none
  | .eql => some (.bool (x.eq y))
  | .neq => some (.bool (!x.eq y))
  | .lss => some (.bool (x.lt y))
  | .leq => some (.bool (x.lt y || x.eq y))
  | .gtr => some (.bool (!(x.lt y || x.eq y)))
  | .geq => some (.bool (!x.lt y))
  | _ => none
def bIntY (op : BinOp) (k : IntKind) (a : Int) (y : SV) : Option SV :=
  match y with
  | .int k' b => match op with
    | .shl => shiftS true k a b
    | .shr => shiftS false k a b
    | op => bInt op k a k' b
  | _ => none
def bStrY (op : BinOp) (a : Str) (y : SV) : Option SV :=
  match y with
  | .str b => strOp op a b
  | _ => none
def binS (op : BinOp) (x y : SV) : Option SV :=
  match x with
  | .int k a => bIntY op k a y
  | .str a => bStrY op a y
  | _ => none
def nilPtr (x y : SV) : Option Bool :=
  match x, y with
  | .ptr none, .ptr b => some b.isNone
  | .ptr _, .ptr none => some false
  | _, _ => none
def nilSl (x y : SV) : Option Bool :=
  match x, y with
  | .slice none _ _, .slice b _ _ => some b.isNone
  | .slice _ _ _, .slice none _ _ => some false
  | _, _ => none
def nilMap (x y : SV) : Option Bool :=
  match x, y with
  | .map none, .map b => some b.isNone
  | .map _, .map none => some false
  | _, _ => none
def nilFn (x y : SV) : Option Bool :=
  match x, y with
  | .nilFunc, .nilFunc => some true
  | .nilFunc, .func _ _ => some false
  | .func _ _, .nilFunc => some false
  | .nilFunc, .yield _ => some false
  | .yield _, .nilFunc => some false
  | _, _ => none
def nilEq (k : Nat) : SV → SV → Option Bool :=
  match k with
  | 0 => nilPtr
  | 1 => nilSl
  | 2 => nilMap
  | _ => nilFn
/-- Plain values of a kind, held against each other. -/
def plainEq (kk : Nat) (x y : SV) : Option Bool :=
  match x, y with
  | .int k a, .int k' b => match Nat.beq kk 1 && sameK k k' with
    | true => some (eqI a b)
    | false => none
  | .str a, .str b => match Nat.beq kk 2 with
    | true => some (a.eq b)
    | false => none
  | .bool a, .bool b => match Nat.beq kk 0 with
    | true => some (a == b)
    | false => none
  | _, _ => none
def structEq (xs ys : List SV) : List (Nat × Nat) → Option Bool
  | [] => some true
  | (o, kk) :: os => match xs[o]?, ys[o]? with
    | some x, some y => match plainEq kk x y with
      | some true => structEq xs ys os
      | some false => some false
      | none => none
    | _, _ => none
def unS (op : UnOp) (x : SV) : Option SV :=
  match op, x with
  | .neg, .int k n => some (.int k (wrapF k (Int.sub 0 n)))
  | .xor, .int k n => some (.int k (k.wrap (BitVec.ofInt k.bits (if k.signed then -1 else k.max) ^^^ BitVec.ofInt k.bits n).toNat))
  | .not, .bool b => some (.bool (!b))
  | _, _ => none
/-- A bound of a slice: from 0 to so much. -/
def bnd (x : SV) (most : Nat) : Option Nat :=
  match x with
  | .int _ n => if 0 ≤ n ∧ n ≤ (most : Int) then some n.toNat else none
  | _ => none
def bndO (x : Option SV) (most dflt : Nat) : Option Nat :=
  match x with
  | none => some dflt
  | some v => bnd v most
def sliceStr (s : Str) (lo hi : Option SV) : Option SV :=
  match bndO hi s.len s.len with
  | none => none
  | some h => match bndO lo h 0 with
    | none => none
    | some l => some (.str (s.extract l h))
def sliceSl (size : Nat) (x : SV) (lo hi mx : Option SV) : Option SV :=
  match x with
  | .slice a len (.kn cap) =>
    match bndO mx cap cap with
    | none => none
    | some m =>
      match hi, mx with
      | none, some _ => none
      | _, _ =>
        match bndO hi m len with
        | none => none
        | some h => match bndO lo h 0 with
          | none => none
          | some l => some (.slice (if m = l then a else a.map (·.add (l * size))) (h - l) (.kn (m - l)))
  | .slice (some a) len (.un sz) =>
    match mx with
    | some mv => match bnd mv len with
      | none => none
      | some m => match hi with
        | none => none
        | some hv => match bnd hv m with
          | none => none
          | some h => match bndO lo h 0 with
            | none => none
            | some l => some (.slice (some (if m = l then a else a.add (l * size))) (h - l) (.kn (m - l)))
    | none => match bndO hi len len with
      | none => none
      | some h => match bndO lo h 0 with
        | none => none
        | some l => match Nat.beq sz size with
          | true => some (.slice (some (a.add (l * size))) (h - l) (.un sz))
          | false => none
  | _ => none
def fillS (cells : List SV) : List (Nat × Nat × SV) → Option (List SV)
  | [] => some cells
  | (off, size, v) :: rest =>
    let cs := v.cells
    if cs.length = size ∧ off + size ≤ cells.length then fillS (cells.take off ++ cs ++ cells.drop (off + size)) rest else none
def minmaxS (mx : Bool) (x : SV) : List SV → Option SV
  | [] => some x
  | y :: ys => match x, y with
    | .int k a, .int k' b => if k = k' then minmaxS mx (.int k (if mx then (if b > a then b else a) else (if b < a then b else a))) ys else none
    | _, _ => none

def lMov (x : SX) (tm : T SV) : Option SV :=
  some (evX tm x)
def lPick (c : SX) (a : SX) (b : SX) (tm : T SV) : Option SV :=
  match evX tm c with
    | .bool true => some (evX tm a)
    | .bool false => some (evX tm b)
    | _ => none
def lBuild (zero : List SV) (parts : List (Nat × Nat × SX)) (tm : T SV) : Option SV :=
  (fillS zero (parts.map fun (o, s, x) => (o, s, evX tm x))).map .agg
def lNilCheck (x : SX) (tm : T SV) : Option SV :=
  match evX tm x with
    | .ptr (some a) => some (.ptr (some a))
    | .func f c => some (.func f c)
    | .yield l => some (.yield l)
    | _ => none
def lBin (op : BinOp) (x : SX) (y : SX) (tm : T SV) : Option SV :=
  binS op (evX tm x) (evX tm y)
def lBinNil (neg : Bool) (k : Nat) (x : SX) (y : SX) (tm : T SV) : Option SV :=
  (nilEq k (evX tm x) (evX tm y)).map fun b => .bool (if neg then !b else b)
def lBinB (neg : Bool) (x : SX) (y : SX) (tm : T SV) : Option SV :=
  match evX tm x, evX tm y with
  | .bool a, .bool b => some (.bool (if neg then !(a == b) else a == b))
  | _, _ => none
def lBinS (neg : Bool) (offs : List (Nat × Nat)) (x : SX) (y : SX) (tm : T SV) : Option SV :=
  match evX tm x, evX tm y with
    | .agg xs, .agg ys => (structEq xs ys offs).map fun b => .bool (if neg then !b else b)
    | _, _ => none
def lUn (op : UnOp) (x : SX) (tm : T SV) : Option SV :=
  unS op (evX tm x)
def lConvInt (k : IntKind) (x : SX) (tm : T SV) : Option SV :=
  match evX tm x with
    | .int _ n => some (.int k (wrapF k n))
    | _ => none
def lConvRune (x : SX) (tm : T SV) : Option SV :=
  match evX tm x with
    | .int _ n => some (.str (Str.of (Utf8.encode n)))
    | _ => none
def lStrId (x : SX) (tm : T SV) : Option SV :=
  match evX tm x with
  | .str s => some (.str s)
  | _ => none
def lMkIface (t : TypeId) (x : SX) (tm : T SV) : Option SV :=
  some (.iface t (evX tm x))
def lMkFunc (f : FuncId) (cs : List SX) (tm : T SV) : Option SV :=
  some (.func f (cs.map (evX tm)))
def lSliceS (x : SX) (lo : Option SX) (hi : Option SX) (tm : T SV) : Option SV :=
  match evX tm x with
    | .str s => sliceStr s (lo.map (evX tm)) (hi.map (evX tm))
    | _ => none
def lSlice (size : Nat) (x : SX) (lo : Option SX) (hi : Option SX) (mx : Option SX) (tm : T SV) : Option SV :=
  sliceSl size (evX tm x) (lo.map (evX tm)) (hi.map (evX tm)) (mx.map (evX tm))
def lFieldAddr (off : Nat) (x : SX) (tm : T SV) : Option SV :=
  match evX tm x with
    | .ptr (some a) => some (.ptr (some (a.add off)))
    | _ => none
def lField (off : Nat) (agg : Option Nat) (x : SX) (tm : T SV) : Option SV :=
  match evX tm x with
    | .agg cs => match agg with
      | none => cs[off]?
      | some n => if off + n ≤ cs.length then some (.agg ((cs.drop off).take n)) else none
    | _ => none
def lIndexAddr (size : Nat) (x : SX) (i : SX) (tm : T SV) : Option SV :=
  match evX tm x, evX tm i with
    | .slice (some a) len _, .int _ n => if 0 ≤ n ∧ n < (len : Int) then some (.ptr (some (a.add (n.toNat * size)))) else none
    | _, _ => none
def lIndexArr (len : Nat) (size : Nat) (x : SX) (i : SX) (tm : T SV) : Option SV :=
  match evX tm x, evX tm i with
    | .ptr (some a), .int _ n => if 0 ≤ n ∧ n < (len : Int) then some (.ptr (some (a.add (n.toNat * size)))) else none
    | _, _ => none
def lIndexS (x : SX) (i : SX) (tm : T SV) : Option SV :=
  match evX tm x, evX tm i with
    | .str s, .int _ n => if 0 ≤ n ∧ n < (s.len : Int) then some (.int .u8 (s.get n.toNat)) else none
    | _, _ => none
def lExtract (x : SX) (i : Nat) (tm : T SV) : Option SV :=
  match evX tm x with
    | .tuple vs => vs[i]?
    | _ => none
def lLen (x : SX) (tm : T SV) : Option SV :=
  match evX tm x with
  | .slice _ n _ => some (.int .i64 n)
  | _ => none
def lLenS (x : SX) (tm : T SV) : Option SV :=
  match evX tm x with
  | .str s => some (.int .i64 s.len)
  | _ => none
def lCap (x : SX) (tm : T SV) : Option SV :=
  match evX tm x with
    | .slice _ _ (.kn c) => some (.int .i64 c)
    | _ => none
def lMinmax (mx : Bool) (xs : List SX) (tm : T SV) : Option SV :=
  match xs.map (evX tm) with
    | x :: ys => minmaxS mx x ys
    | [] => none
/-- (what is handed over behind is no part of the arms: the kernel's road is shorter so) -/
def evLocal : LOp → T SV → Option SV
  | .mov x => lMov x
  | .pick c a b => lPick c a b
  | .build zero parts => lBuild zero parts
  | .nilCheck x => lNilCheck x
  | .bin op x y => lBin op x y
  | .binNil neg k x y => lBinNil neg k x y
  | .binB neg x y => lBinB neg x y
  | .binS neg offs x y => lBinS neg offs x y
  | .un op x => lUn op x
  | .convInt k x => lConvInt k x
  | .convRune x => lConvRune x
  | .strId x => lStrId x
  | .mkIface t x => lMkIface t x
  | .mkFunc f cs => lMkFunc f cs
  | .sliceS x lo hi => lSliceS x lo hi
  | .slice size x lo hi mx => lSlice size x lo hi mx
  | .fieldAddr off x => lFieldAddr off x
  | .field off agg x => lField off agg x
  | .indexAddr size x i => lIndexAddr size x i
  | .indexArr len size x i => lIndexArr len size x i
  | .indexS x i => lIndexS x i
  | .extract x i => lExtract x i
  | .len x => lLen x
  | .lenS x => lLenS x
  | .cap x => lCap x
  | .minmax mx xs => lMinmax mx xs

/-! ### Operations with memory, but for calls -/
def findE (kk : Nat) (k : SV) : List (SV × SV × Nat) → Nat → Option (Option (Nat × SV))
  | [], _ => some none
  | (k', v, _) :: es, i => match plainEq kk k k' with
    | some true => some (some (i, v))
    | some false => findE kk k es (i + 1)
    | none => none
def keyS : SV → Bool
  | .int _ _ | .str _ => true
  | _ => false
def cellsOfX (σ : SSt) (size : Nat) (x : SV) (n : Nat) : Option (List SV) :=
  match x with
  | .slice (some a) _ _ => rdL E σ a 0 (n * size)
  | .slice none _ _ => some []
  | .str s => match Nat.beq size 1 with
    | true => some ((s.bytes 0 n).map fun (b : Nat) => .int .u8 b)
    | false => none
  | _ => none
def lenX : SV → Option Nat
  | .slice _ n _ => some n
  | .str s => some s.len
  | _ => none
/-- 'append', n elements more, the cells of which are 'new'. -/
def appendS (σ : SSt) (elem : TypeId) (size bytes : Nat) (s : SV) (n : Nat) (news : Option (List SV)) : Option (SV × SSt) :=
  match s with
  | .slice base len cap =>
    match Nat.beq n 0 with
    | true => match cap with
      | .kn c => match Nat.ble len c with
        | true => some (s, σ)
        | false => none
      | .un _ => some (s, σ)
    | false =>
      match news with
      | none => none
      | some new =>
        match cap with
        | .kn c =>
          match Nat.ble (len + n) c with
          | true => match base with
            | none => none
            | some a => match wr σ (a.add (len * size)) new with
              | none => none
              | some σ' => some (.slice base (len + n) cap, σ')
          | false =>
            if (2 * (len + n) + 1024) * bytes ≤ 2 ^ 47 ∧ new.all SV.one = true then
              match cellsOfX E σ size s len with
              | none => none
              | some old => some (.slice (some ⟨false, σ.next, 0⟩) (len + n) (.un size), σ.newCells elem (old ++ new))
            else none
        | .un sz =>
          match base with
          | none => none
          | some a => match a.base with
            | true => none
            | false =>
              if (2 * (len + n) + 1024) * bytes ≤ 2 ^ 47 ∧ new.all SV.one = true then
                match σ.heap.get a.blk with
                | some (.cells t m e) =>
                  match Nat.beq e elem && Nat.beq sz size, rdL E σ a 0 (len * size) with
                  | true, some old =>
                    let σ' := σ.put a.blk none
                    some (.slice (some ⟨false, σ'.next, 0⟩) (len + n) (.un size), σ'.newCells elem (old ++ new))
                  | _, _ => none
                | _ => none
              else none
  | _ => none
def bytesOfL : List SV → Option (List Nat)
  | [] => some []
  | .int .u8 n :: l => match bytesOfL l with
    | some bs => some (n.toNat % 256 :: bs)
    | none => none
  | _ :: _ => none
/-- A value's pieces laid over cells that repeat a zero. -/
def repL (z : List SV) : Nat → List SV
  | 0 => []
  | n + 1 => z ++ repL z n

def mAlloc (elem : TypeId) (zero : List SV) (tm : T SV) (σ : SSt) : Ev (SV × SSt) := .ok (.ptr (some ⟨false, σ.next, 0⟩), σ.newCells elem zero)
def mBox (elem : TypeId) (x : SX) (tm : T SV) (σ : SSt) : Ev (SV × SSt) := match (evX tm x).cells.all SV.one with
    | true => .ok (.ptr (some ⟨false, σ.next, 0⟩), σ.newCells elem (evX tm x).cells)
    | false => .fail
def mBuildSlice (elem : TypeId) (size : Nat) (len : Nat) (zero : List SV) (parts : List (Nat × SX)) (tm : T SV) (σ : SSt) : Ev (SV × SSt) := match fillS (repL zero len) (parts.map fun (i, x) => (i * size, size, evX tm x)) with
    | none => .fail
    | some cs => match cs.all SV.one with
      | true => .ok (.slice (some ⟨false, σ.next, 0⟩) len (.kn len), σ.newCells elem cs)
      | false => .fail
def mLoad (agg : Option Nat) (x : SX) (tm : T SV) (σ : SSt) : Ev (SV × SSt) := match evX tm x with
    | .ptr (some a) => match rdVar E σ agg a with
      | some v => .ok (v, σ)
      | none => .fail
    | _ => .fail
def mStore (size : Nat) (x : SX) (v : SX) (tm : T SV) (σ : SSt) : Ev (SV × SSt) := match evX tm x with
    | .ptr (some a) => match Nat.beq (evX tm v).cells.length size with
      | true => match wr σ a (evX tm v).cells with
        | some σ' => .ok (undefS, σ')
        | none => .fail
      | false => .fail
    | _ => .fail
def mConvBytes (elem : TypeId) (x : SX) (tm : T SV) (σ : SSt) : Ev (SV × SSt) := match evX tm x with
    | .str s => if s.len < 2 ^ 47 then .ok (.slice (some ⟨false, σ.next, 0⟩) s.len (.un 1), σ.newCells elem ((s.bytes 0 s.len).map fun (b : Nat) => .int .u8 b)) else .fail
    | _ => .fail
def mConvStr (x : SX) (tm : T SV) (σ : SSt) : Ev (SV × SSt) := match evX tm x with
    | .slice none _ _ => .ok (.str ⟨0, 0⟩, σ)
    | .slice (some a) n _ => match rdL E σ a 0 n with
      | none => .fail
      | some l => match bytesOfL l with
        | some bs => .ok (.str (Str.ofNats bs), σ)
        | none => .fail
    | _ => .fail
def mMkMap  (tm : T SV) (σ : SSt) : Ev (SV × SSt) := .ok (.map (some σ.next), σ.alloc (.map [] 0))
def mMkSlice (elem : TypeId) (size : Nat) (bytes : Nat) (zero : List SV) (l : SX) (c : SX) (tm : T SV) (σ : SSt) : Ev (SV × SSt) := match evX tm l, evX tm c with
    | .int _ l, .int _ c =>
      if 0 ≤ l ∧ l ≤ c ∧ c < 2 ^ 47 ∧ bytes * c ≤ 2 ^ 47 ∧ zero.all SV.one = true then
        .ok (.slice (some ⟨false, σ.next, 0⟩) l.toNat (.kn c.toNat), σ.newCells elem (repL zero c.toNat))
      else .fail
    | _, _ => .fail
def mLookup (kk : Nat) (zero : SV) (ok : Bool) (x : SX) (k : SX) (tm : T SV) (σ : SSt) : Ev (SV × SSt) :=
    let es : Option (List (SV × SV × Nat)) := match evX tm x with
      | .map none => some []
      | .map (some r) => match σ.heap.get r with
        | some (.map es _) => some es
        | _ => none
      | _ => none
    match es with
    | none => .fail
    | some es => match findE kk (evX tm k) es 0 with
      | none => .fail
      | some r =>
        let (v, b) := match r with
          | some (_, v) => (v, true)
          | none => (zero, false)
        .ok (if ok then .tuple [v, .bool b] else v, σ)
def mMapUpdate (kk : Nat) (x : SX) (k : SX) (v : SX) (tm : T SV) (σ : SSt) : Ev (SV × SSt) := match evX tm x with
    | .map (some r) => match σ.heap.get r with
      | some (.map es clock) => match keyS (evX tm k), findE kk (evX tm k) es 0 with
        | true, some (some (i, _)) => .ok (undefS, σ.put r (some (.map (es.modify i fun (_, _, b) => (evX tm k, evX tm v, b)) clock)))
        | true, some none => .ok (undefS, σ.put r (some (.map (es ++ [(evX tm k, evX tm v, clock)]) (clock + 1))))
        | _, _ => .fail
      | _ => .fail
    | _ => .fail
def mDelete (kk : Nat) (x : SX) (k : SX) (tm : T SV) (σ : SSt) : Ev (SV × SSt) := match evX tm x with
    | .map none => match keyS (evX tm k) with
      | true => .ok (undefS, σ)
      | false => .fail
    | .map (some r) => match σ.heap.get r with
      | some (.map es clock) => match keyS (evX tm k), findE kk (evX tm k) es 0 with
        | true, some (some (i, _)) => .ok (undefS, σ.put r (some (.map (es.eraseIdx i) clock)))
        | true, some none => .ok (undefS, σ.put r (some (.map es clock)))
        | _, _ => .fail
      | _ => .fail
    | _ => .fail
def mLenMap (x : SX) (tm : T SV) (σ : SSt) : Ev (SV × SSt) := match evX tm x with
    | .map none => .ok (.int .i64 0, σ)
    | .map (some r) => match σ.heap.get r with
      | some (.map es _) => .ok (.int .i64 es.length, σ)
      | _ => .fail
    | _ => .fail
def mRange (x : SX) (tm : T SV) (σ : SSt) : Ev (SV × SSt) := match evX tm x with
    | .map none => .ok (.ptr (some ⟨false, σ.next, 0⟩), σ.alloc (.mapIter none 0 [] 0))
    | .map (some m) => match σ.heap.get m with
      | some (.map _ clock) => .ok (.ptr (some ⟨false, σ.next, 0⟩), σ.alloc (.mapIter (some m) clock [] clock))
      | _ => .fail
    | _ => .fail
def mNext (x : SX) (tm : T SV) (σ : SSt) : Ev (SV × SSt) := match evX tm x with
    | .ptr (some ⟨false, r, 0⟩) => match σ.heap.get r with
      | some (.mapIter none _ _ _) => .ok (.tuple [.bool false], σ)
      | some (.mapIter (some m) since seen last) => match σ.heap.get m with
        | some (.map es clock) =>
          -- (entries are only ranged over while none comes)
          match Nat.beq clock since && Nat.beq last since && es.all fun e => Nat.blt e.2.2 since with
          | false => .fail
          | true =>
            let pick (e : SV × SV × Nat) : Ev (SV × SSt) := .ok (.tuple [.bool true, e.1, e.2.1], σ.put r (some (.mapIter (some m) since (seen ++ [e.2.2]) clock)))
            match es.filter fun e => !seen.contains e.2.2 with
            | [] => .ok (.tuple [.bool false], σ)
            | [e] => pick e
            | left => .any (left.length - 1) fun i => match left[i]? with
              | some e => pick e
              | none => .fail
        | _ => .fail
      | _ => .fail
    | _ => .fail
def mEntry (x : SX) (tm : T SV) (σ : SSt) : Ev (SV × SSt) := match evX tm x with
    | .ptr (some ⟨false, r, 0⟩) => match σ.heap.get r with
      | some (.mapIter (some m) _ seen stepped) => match σ.heap.get m, seen.getLast? with
        | some (.map es clock), some stamp => match Nat.beq clock stepped, es.find? fun e => e.2.2 == stamp with
          | true, some e => .ok (.tuple [e.1, e.2.1], σ)
          | _, _ => .fail
        | _, _ => .fail
      | _ => .fail
    | _ => .fail
def mAppend (elem : TypeId) (size : Nat) (bytes : Nat) (s : SX) (x : SX) (tm : T SV) (σ : SSt) : Ev (SV × SSt) := match lenX (evX tm x) with
    | some n => .of (appendS E σ elem size bytes (evX tm s) n (cellsOfX E σ size (evX tm x) n))
    | none => .fail
def mAppendZ (elem : TypeId) (size : Nat) (bytes : Nat) (zero : List SV) (s : SX) (x : SX) (tm : T SV) (σ : SSt) : Ev (SV × SSt) := match evX tm x with
    | .int _ n => if 0 ≤ n ∧ n < 2 ^ 47 ∧ n * bytes ≤ 2 ^ 47 then .of (appendS E σ elem size bytes (evX tm s) n.toNat (some (repL zero n.toNat))) else .fail
    | _ => .fail
def mSame (x : SX) (tm : T SV) (σ : SSt) : Ev (SV × SSt) := match evX tm x with
    | .slice (some a) n c => match a.base with
      | true => .fail
      | false => match Nat.beq n 0, σ.heap.get a.blk with
        | false, some (.cells t m e) => .ok (.slice (some a) n c, σ.put a.blk (some (.cells t m e)))
        | _, _ => .fail
    | _ => .fail
def mCopy (size : Nat) (d : SX) (s : SX) (tm : T SV) (σ : SSt) : Ev (SV × SSt) := match evX tm d, lenX (evX tm s) with
    | .slice base dl _, some sl =>
      let n := min sl dl
      match cellsOfX E σ size (evX tm s) n with
      | none => .fail
      | some cs => match base with
        | none => .ok (.int .i64 n, σ)
        | some a => match Nat.beq n 0 with
          | true => .ok (.int .i64 n, σ)
          | false => match wr σ a cs with
            | some σ' => .ok (.int .i64 n, σ')
            | none => .fail
    | _, _ => .fail
def mClear (zero : List SV) (x : SX) (tm : T SV) (σ : SSt) : Ev (SV × SSt) := match evX tm x with
    | .slice none _ _ | .slice _ 0 _ => .ok (undefS, σ)
    | .slice (some a) n _ => match wr σ a (repL zero n) with
      | some σ' => .ok (undefS, σ')
      | none => .fail
    | _ => .fail
def mBad (_ : T SV) (_ : SSt) : Ev (SV × SSt) := .fail
def evMem : MOp → T SV → SSt → Ev (SV × SSt)
  | .alloc elem zero => mAlloc elem zero
  | .box elem x => mBox elem x
  | .buildSlice elem size len zero parts => mBuildSlice elem size len zero parts
  | .load agg x => mLoad E agg x
  | .store size x v => mStore size x v
  | .convBytes elem x => mConvBytes elem x
  | .convStr x => mConvStr E x
  | .mkMap  => mMkMap 
  | .mkSlice elem size bytes zero l c => mMkSlice elem size bytes zero l c
  | .lookup kk zero ok x k => mLookup kk zero ok x k
  | .mapUpdate kk x k v => mMapUpdate kk x k v
  | .delete kk x k => mDelete kk x k
  | .lenMap x => mLenMap x
  | .range x => mRange x
  | .next x => mNext x
  | .entry x => mEntry x
  | .append elem size bytes s x => mAppend E elem size bytes s x
  | .appendZ elem size bytes zero s x => mAppendZ E elem size bytes zero s x
  | .same x => mSame x
  | .copy size d s => mCopy E size d s
  | .clear zero x => mClear zero x
  | .bad => mBad

/-! ### Control -/
abbrev CodeF := SCode → SAct → SSt → Ev (SExit × SAct × SSt)
abbrev CallF := FuncId → List SV → SSt → Ev (SV × SSt)

def SAct.put (a : SAct) (dst : Option Nat) (v : SV) : SAct :=
  match dst with
  | some d => { a with tm := a.tm.set d (some v) }
  | none => a
def setParams (tm : T SV) : List Nat → List SV → Option (T SV)
  | [], [] => some tm
  | p :: ps, v :: vs => setParams (tm.set p (some v)) ps vs
  | _, _ => none

/-- A round of a range over a function: its end. -/
def roundEnd (l : Nat) (r : SExit × SAct × SSt) : Ev (SV × SSt) :=
  match r.2.2.heap.get l with
  | some (.loop L2) =>
    match r.1 with
    | .normal => .ok (.bool true, r.2.2.put l (some (.loop { L2 with state := .ready, pending := none })))
    | .ret => .ok (.bool false, r.2.2.put l (some (.loop { L2 with state := .done, pending := some .ret })))
    | .exit id => .ok (.bool false, r.2.2.put l (some (.loop { L2 with state := .done, pending := some (.exit id) })))
  | _ => .fail
/-- Its body. -/
def roundBody (code : CodeF) (l : Nat) (body : SCode) (r : SExit × SAct × SSt) : Ev (SV × SSt) :=
  match r.1, r.2.2.heap.get l with
  | .normal, some (.loop L1) =>
    match L1.state with
    | .ready => (code body r.2.1 (r.2.2.put l (some (.loop { L1 with state := .busy })))).bind (roundEnd l)
    | _ => .fail
  | _, _ => .fail
/-- The whole of it: yield is called. -/
def evRound (code : CodeF) (l : Nat) (args : List SV) (σ : SSt) : Ev (SV × SSt) :=
  match σ.heap.get l with
  | some (.loop L) =>
    match setParams L.tm L.params args with
    | none => .fail
    | some tm => (code L.assign ⟨tm, [], some l⟩ σ).bind (roundBody code l L.body)
  | _ => .fail

def oLoc (o : LOp) (_ : CodeF) (_ : CallF) (tm : T SV) (σ : SSt) : Ev (SV × SSt) :=
  match evLocal o tm with
  | some v => .ok (v, σ)
  | none => .fail
def oMem (o : MOp) (_ : CodeF) (_ : CallF) (tm : T SV) (σ : SSt) : Ev (SV × SSt) := evMem E o tm σ
def oCall (f : SX) (args : List SX) (code : CodeF) (call : CallF) (tm : T SV) (σ : SSt) : Ev (SV × SSt) :=
  match evX tm f with
  | .func g cs => call g (args.map (evX tm) ++ cs) σ
  | .yield l => evRound code l (args.map (evX tm)) σ
  | _ => .fail
def evOp : SOp → CodeF → CallF → T SV → SSt → Ev (SV × SSt)
  | .loc o => oLoc o
  | .mem o => oMem E o
  | .call f args => oCall f args
/-- Is an operation carried out at all? -/
def wantedS (tm : T SV) : Option (Nat × Bool) → Bool
  | none => true
  | some (t, b) => match getT tm t with
    | .bool c => c == b
    | _ => false
def evOps (code : CodeF) (call : CallF) (ops : List SOper) : SAct → SSt → Ev (SAct × SSt) :=
  List.rec (motive := fun _ => SAct → SSt → Ev (SAct × SSt)) (fun a σ => .ok (a, σ))
    (fun o _ ih a σ => match wantedS a.tm o.guard with
      | true => (evOp E o.op code call a.tm σ).bind fun r => ih (a.put o.dst r.1) r.2
      | false => ih (a.put o.dst undefS) σ) ops
theorem evOps_nil (code : CodeF) (call : CallF) (a : SAct) (σ : SSt) : evOps E code call [] a σ = .ok (a, σ) := rfl
theorem evOps_cons (code : CodeF) (call : CallF) (o : SOper) (os : List SOper) (a : SAct) (σ : SSt) : evOps E code call (o :: os) a σ =
    match wantedS a.tm o.guard with
    | true => (evOp E o.op code call a.tm σ).bind fun r => evOps E code call os (a.put o.dst r.1) r.2
    | false => evOps E code call os (a.put o.dst undefS) σ := rfl

/-- What an operation of a region without order has done: its place, the blocks that it made, those that it turned. -/
structure Rc where
  i : Nat
  lo : Nat
  hi : Nat
  mods : List Nat
def hideR (h : T SObj) : Nat → Nat → T SObj
  | _, 0 => h
  | lo, n + 1 => hideR (h.set lo none) (lo + 1) n
def hide (h : T SObj) (r : Rc) : T SObj := r.mods.foldl (fun h k => h.set k none) (hideR h r.lo (r.hi - r.lo))
def backR (old : T SObj) (h : T SObj) : Nat → Nat → T SObj
  | _, 0 => h
  | lo, n + 1 => backR old (h.set lo (old.get lo)) (lo + 1) n
def back (old : T SObj) (h : T SObj) (r : Rc) : T SObj := r.mods.foldl (fun h k => h.set k (old.get k)) (backR old h r.lo (r.hi - r.lo))
def SOp.ld : SOp → Option (Option Nat × SX)
  | .mem (.load agg x) => some (agg, x)
  | _ => none
def Rc.tchB (r : Rc) (k : Nat) : Bool := (Nat.ble r.lo k && Nat.blt k r.hi) || r.mods.contains k
/-- A load of a region without order: its value, and the block that it looks at. -/
def evLook (rs : List Rc) (bm : Nat) (σ : SSt) (agg : Option Nat) : SV → Option (SV × Option Nat)
  | .ptr (some ad) => match ad.base with
    | true => match rdVar E σ agg ad with
      | some v => some (v, none)
      | none => none
    | false => match rs.any fun r => !bm.testBit r.i && r.tchB ad.blk with
      | true => none
      | false => match rdVar E σ agg ad with
        | some v => some (v, some ad.blk)
        | none => none
  | _ => none
/-- Does it turn none of the blocks that those not ahead of it look at? -/
def lookOk (bm : Nat) (lk : List (Nat × Nat)) (mods : List Nat) : Bool := lk.all fun p => bm.testBit p.1 || !mods.contains p.2
def addLook (i : Nat) (b : Option Nat) (lk : List (Nat × Nat)) : List (Nat × Nat) := match b with
  | some k => (i, k) :: lk
  | none => lk
/-- Operations that look at no more than some blocks; none: who knows. -/
def lightOf : SOp → T SV → Option (List Nat)
  | .mem (.store _ x _), tm => match evX tm x with
    | .ptr (some ad) => match ad.base with
      | true => none
      | false => some [ad.blk]
    | _ => none
  | .mem (.alloc _ _), _ => some []
  | .mem (.box _ _), _ => some []
  | .mem (.buildSlice _ _ _ _ _), _ => some []
  | _, _ => none
def addLooks (i : Nat) (ks : Option (List Nat)) (lk : List (Nat × Nat)) : List (Nat × Nat) := match ks with
  | some l => l.map (fun k => (i, k)) ++ lk
  | none => lk
def addLoud (i loud : Nat) (ks : Option (List Nat)) : Nat := match ks with
  | some _ => loud
  | none => loud ||| 2 ^ i
def evDraw (code : CodeF) (call : CallF) : List (SOper × Nat) → Nat → Nat → List Rc → List (Nat × Nat) → SAct → SSt → Ev (SAct × SSt)
  | [], _, _, _, _, a, σ => .ok (a, σ)
  | (o, bm) :: os, i, loud, rs, lk, a, σ =>
    match wantedS a.tm o.guard with
    | false => evDraw code call os (i + 1) loud rs lk (a.put o.dst undefS) σ
    | true => match o.op.loud with
      | false => (evOp E o.op code call a.tm σ).bind fun (v, _) => evDraw code call os (i + 1) loud rs lk (a.put o.dst v) σ
      | true => match o.op.ld with
        | some (agg, x) => match evLook E rs bm σ agg (evX a.tm x) with
          | some (v, b) => evDraw code call os (i + 1) loud rs (addLook i b lk) (a.put o.dst v) σ
          | none => .fail
        | none =>
          let hid := rs.filter fun r => !bm.testBit r.i
          match evOp E o.op code call a.tm { heap := hid.foldl hide σ.heap, next := σ.next, mark := σ.next, mods := [] } with
          | .ok (v, σ') =>
            match (σ'.mods.isEmpty || Nat.beq (loud &&& bm) loud) && lookOk bm lk σ'.mods with
            | true =>
              evDraw code call os (i + 1) (addLoud i loud (lightOf o.op a.tm)) (⟨i, σ.next, σ'.next, σ'.mods⟩ :: rs) (addLooks i (lightOf o.op a.tm) lk) (a.put o.dst v)
                { heap := hid.foldl (back σ.heap) σ'.heap, next := σ'.next, mark := σ.mark, mods := σ'.mods.filter (Nat.blt · σ.mark) ++ σ.mods }
            | false => .fail
          | _ => .fail

/-- The end of a range over a function. -/
def rangeEnd (l : Nat) (a : SAct) (r : SV × SSt) : Ev (SExit × SAct × SSt) :=
  match r.2.heap.get l with
  | some (.loop L) =>
    match L.state with
    | .busy => .fail
    | _ => match L.pending with
      | none => .ok (.normal, a, r.2.put l (some (.loop { L with state := .exhausted })))
      | some .ret => .ok (.ret, a, r.2.put l (some (.loop { L with state := .exhausted })))
      | some (.exit id) => .ok (.exit id, a, r.2.put l (some (.loop { L with state := .exhausted })))
  | _ => .fail
/-- Its record is laid; m: its mark; ds: the deferred calls then. -/
def rangeGo (f : SX) (ps : List Nat) (assign body : SCode) (call : CallF) (a : SAct) (m : Nat) (ds : List Nat) (σ : SSt) : Ev (SExit × SAct × SSt) :=
  match evX a.tm f with
  | .func g cs => (call g (.yield σ.next :: cs) (σ.alloc (.loop ⟨.ready, none, a.tm, ps, assign, body, m⟩))).bind (rangeEnd σ.next { a with defers := ds })
  | _ => .fail
def evRange (f : SX) (ps : List Nat) (assign body : SCode) (_ : CodeF) (call : CallF) (a : SAct) (σ : SSt) : Ev (SExit × SAct × SSt) :=
  match a.ro with
  | none => rangeGo f ps assign body call a σ.next (σ.next :: a.defers) (σ.alloc .marker)
  | some l => match σ.heap.get l with
    | some (.loop L) => rangeGo f ps assign body call a L.defers a.defers σ
    | _ => .fail

def cSkip (_ : CodeF) (_ : CallF) (a : SAct) (σ : SSt) : Ev (SExit × SAct × SSt) := .ok (.normal, a, σ)
def cRegion (ops : List SOper) (code : CodeF) (call : CallF) (a : SAct) (σ : SSt) : Ev (SExit × SAct × SSt) :=
  (evOps E code call ops a σ).bind fun (a, σ) => .ok (.normal, a, σ)
def cDraw (ops : List (SOper × Nat)) (code : CodeF) (call : CallF) (a : SAct) (σ : SSt) : Ev (SExit × SAct × SSt) :=
  (evDraw E code call ops 0 0 [] [] a σ).bind fun (a, σ) => .ok (.normal, a, σ)
def cSeq (x y : SCode) (code : CodeF) (_ : CallF) (a : SAct) (σ : SSt) : Ev (SExit × SAct × SSt) :=
  (code x a σ).bind fun (e, a, σ) => match e with
    | .normal => code y a σ
    | e => .ok (e, a, σ)
def cCond (x : SX) (c d : SCode) (code : CodeF) (_ : CallF) (a : SAct) (σ : SSt) : Ev (SExit × SAct × SSt) :=
  match evX a.tm x with
  | .bool b => match b with
    | true => code c a σ
    | false => code d a σ
  | _ => .fail
def cBlock (id : Nat) (c : SCode) (code : CodeF) (_ : CallF) (a : SAct) (σ : SSt) : Ev (SExit × SAct × SSt) :=
  (code c a σ).bind fun (e, a, σ) => match e with
    | .exit i => .ok (match Nat.beq i id with | true => .normal | false => .exit i, a, σ)
    | e => .ok (e, a, σ)
def cLoop (c : SCode) (code : CodeF) (_ : CallF) (a : SAct) (σ : SSt) : Ev (SExit × SAct × SSt) :=
  (code c a σ).bind fun (e, a, σ) => match e with
    | .normal => code (.loop c) a σ
    | e => .ok (e, a, σ)
def cExit (id : Nat) (_ : CodeF) (_ : CallF) (a : SAct) (σ : SSt) : Ev (SExit × SAct × SSt) := .ok (.exit id, a, σ)
def cScope (c : SCode) (code : CodeF) (_ : CallF) (a : SAct) (σ : SSt) : Ev (SExit × SAct × SSt) := code c a σ
def cRet (_ : CodeF) (_ : CallF) (a : SAct) (σ : SSt) : Ev (SExit × SAct × SSt) := .ok (.ret, a, σ)
def cBad (_ : CodeF) (_ : CallF) (_ : SAct) (_ : SSt) : Ev (SExit × SAct × SSt) := .fail
def evCode : SCode → CodeF → CallF → SAct → SSt → Ev (SExit × SAct × SSt)
  | .skip => cSkip
  | .region ops => cRegion E ops
  | .draw ops => cDraw E ops
  | .seq x y => cSeq x y
  | .cond x c d => cCond x c d
  | .block id c => cBlock id c
  | .loop c => cLoop c
  | .rangeFunc f ps x y => evRange f ps x y
  | .exit id => cExit id
  | .scope c => cScope c
  | .ret => cRet
  | .bad => cBad

def evRes (tm : T SV) (σ : SSt) : SRes → Option SV
  | .tmp t => some (getT tm t)
  | .cell t agg => match getT tm t with
    | .ptr (some a) => rdVar E σ agg a
    | _ => none
/-- The results, one or more. -/
def evRess (tm : T SV) (σ : SSt) (rs : List SRes) : Option SV :=
  match rs with
  | [r] => evRes E tm σ r
  | rs => (rs.mapM (evRes E tm σ)).map .tuple
def optInt : Option Nat → Int
  | some i => i
  | none => -1
def evExt : SExt → List SV → Option SV
  | .indexByte, [.str s, .int .u8 c] => some (.int .i64 (optInt (s.find (c.toNat % 256))))
  | _, _ => none
/-- The marks of ranges over functions are taken: each has to be there. -/
def takeMarks : List Nat → SSt → Option SSt
  | [], σ => some σ
  | m :: ms, σ => match σ.heap.get m with
    | some .marker => takeMarks ms (σ.put m none)
    | _ => none
def callLeave (rs : List SRes) (tm : T SV) : Option SSt → Ev (SV × SSt)
  | none => .fail
  | some σ => match evRess E tm σ rs with
    | some v => .ok (v, σ)
    | none => .fail
def callEnd (rs : List SRes) (r : SExit × SAct × SSt) : Ev (SV × SSt) :=
  match r.1 with
  | .exit _ => .fail
  | _ => callLeave E rs r.2.1.tm (takeMarks r.2.1.defers r.2.2)
def evCall (code : CodeF) : CallF := fun f args σ =>
  match E.spec f with
  | some g => g args σ
  | none => match E.funcs.get f with
    | some (.ext x) => match evExt x args with
      | some v => .ok (v, σ)
      | none => .fail
    | some (.code _ rs c) => (code c ⟨T.e.putList 0 args, [], none⟩ σ).bind (callEnd E rs)
    | none => .fail

def evN (n : Nat) : CodeF × CallF :=
  Nat.rec (motive := fun _ => CodeF × CallF) (fun _ _ _ => .fail, fun _ _ _ => .fail) (fun _ r => (fun c => evCode E c r.1 r.2, evCall E r.1)) n
end
end
end Go.Sh
