/- Em2: from the model's code to the instructions of Em1: the types are looked up in the program's table. Definitions alone; no conditions. -/
import Derived.Test.YtpgeonghlabnhaaGreatDoorEm1
import Derived.Laws.Sem
set_option linter.unusedVariables false
namespace Go.Proofs.YtpgeonghlabnhaaGreatDoor.Em
open Go
section
variable (P : Program)
def szP (t : TypeId) : Option Nat := (P.info? t).map (·.size)
def byP (t : TypeId) : Option Nat := (P.info? t).map (·.bytes)
def zeP (t : TypeId) : Option Value := (P.info? t).bind (·.zero)
def aggP (t : TypeId) : Option Bool :=
  match P.underlying t with
  | some (.struct _) | some (.array _ _) => some true
  | some _ => some false
  | none => none
/-- the places of a literal's parts -/
def partsP (place : Nat → Option (Nat × Nat)) : List (Nat × Operand) → Option (List (Nat × Nat × Operand))
  | [] => some []
  | (i, x) :: l => match place i, partsP place l with
    | some (o, n), some r => some ((o, n, x) :: r)
    | _, _ => none
def optL : List (Option (Nat × Nat)) → Option (List (Nat × Nat))
  | [] => some []
  | some x :: l => match optL l with | some r => some (x :: r) | none => none
  | none :: _ => none
/-- the types whose method of a name is a plain Go function that takes the value as it is -/
def candsP (name : String) : List Nat → List (TypeId × FuncId)
  | [] => []
  | t :: l =>
    let r := candsP name l
    match P.info? t with
    | some i => match i.methods.find? (·.name == name) with
      | some m => match m.path.toList, m.func, P.underlying t with
        | [], some (f, true), some (.pointer _) => (t, f) :: r
        | [], some (_, false), some (.pointer _) => r
        | [], some (f, false), some _ => (t, f) :: r
        | _, _, _ => r
      | none => r
    | none => r
def goodF (f : FuncId) : Bool :=
  match P.funcs[f]? with
  | some fn => fn.body.isSome && fn.name != "runtime.NumGoroutine" && !Nat.beq f roundF
  | none => false
/-- the shape of a key that can be held by its bits: 0: an integer, 1: a string, n + 2: an array of n integers -/
def keyP (t : TypeId) : Option Nat :=
  match P.underlying t with
  | some (.int _) => some 0
  | some .string => some 1
  | some (.array n e) => match P.underlying e, szP P e with
    | some (.int _), some 1 => some (n + 2)
    | _, _ => none
  | _ => none
def lkOk (z : Value) (a : Bool) : Bool :=
  match z with
  | .agg _ => a
  | z => !a && z.cells.size == 1
/-- a builder of strings, or a struct that begins with one -/
def isBld (t : TypeId) : Bool :=
  let own (t : TypeId) : Bool := match (P.info? t).map fun i => i.desc with
    | some (TypeDesc.named n _) => n == "strings.Builder"
    | _ => false
  own t || match P.underlying t with
    | some (.struct fs) => match fs[0]? with
      | some f => own f.type
      | none => false
    | _ => false
/-- its first cells -/
def bldZ (z : List Value) : Bool :=
  match z with
  | .pointer none :: .slice none 0 0 :: _ => true
  | _ => false
/-- the types of blocks at whose beginning variables of a type lie -/
def oklP (u : TypeId) : List (Nat × Nat × Nat) :=
  ((List.range P.types.size).filter (isBld P)).filterMap fun e => match szP P e with
    | some n => if n != 0 && liesAt P P.depth e 1 0 u 1 then some (e, n, 0) else none
    | none => none
/-- the types of whole numbers -/
def intTs : List Nat :=
  (List.range P.types.size).filter fun t => match P.underlying t, P.info? t with
    | some (.int _), some i => i.comparable
    | _, _ => false
def constO : Operand → Bool
  | .const _ => true
  | _ => false
/-- the one function without a body that is known: what it is handed comes back -/
def noEsc (f : FuncId) (args : List Operand) : Option EI :=
  match P.funcs[f]? with
  | some fn => if fn.body.isNone && fn.name == "internal/abi.NoEscape" && (Extern.findNext fn).isNone then match args with
      | [x] => some (.same x)
      | _ => none
    else none
  | none => none
def compOp (op : Op) : Option EI :=
  match op with
  | .move x | .assign x => some (.mov x)
  | .pick c a b => some (.pick c a b)
  | .alloc e => match zeP P e with
    | some z => if isBld P e && bldZ z.cells.toList && allOne (litL z.cells.toList) then match szP P e with
        | some n => if z.cells.size == n then some (.allocB e n z.cells.toList) else none
        | none => none
      else some (.alloc z.cells.toList)
    | none => none
  | .box e x => if isBld P e then match szP P e with
      | some n => some (.boxB e n x)
      | none => none
    else some (.box x)
  | .build t ps =>
    match zeP P t, P.underlying t with
    | some z, some (.struct fs) =>
      match optL (fs.toList.map fun f => (szP P f.type).map fun n => (f.offset, n)) with
      | some places => match partsP (fun i => places[i]?) ps.toList with
        | some l => some (.build z.cells.toList l)
        | none => none
      | none => none
    | some z, some (.array _ e) =>
      match szP P e with
      | some n => match partsP (fun i => some (i * n, n)) ps.toList with
        | some l => some (.build z.cells.toList l)
        | none => none
      | none => none
    | _, _ => none
  | .buildSlice t len ps =>
    match P.underlying t with
    | some (.slice e) => match szP P e, zeP P e with
      | some n, some z =>
        if n = 0 || len * n > 2 ^ 24 then none else
        match partsP (fun i => some (i * n, n)) ps.toList with
        | some l => some (.buildSlice n len (((Array.range (len * n)).map (z.cells[· % z.cells.size]!)).toList) l)
        | none => none
      | _, _ => none
    | _ => none
  | .load t a => match aggP P t, szP P t with
    | some true, some n => some (.load true n a)
    | some false, _ => some (.load false 1 a)
    | _, _ => none
  | .store t a v => match szP P t with
    | some n => some (.store n a v)
    | none => none
  | .nilCheck x => some (.nilCheck x)
  | .binOp op t x y _ => match P.underlying t with
    | some (.interface ms) => if constO x || constO y then some (.bin op x y (some (.interface ms))) else some (.ieq op (intTs P) x y)
    | some (.pointer el) => if constO x || constO y then some (.bin op x y (some (.pointer el))) else match szP P el with
      | some n => if n = 0 then none else some (.peq op el x y)
      | none => none
    | td => some (.bin op x y td)
  | .unOp op _ x => some (.un op x)
  | .convert src dst x =>
    match P.underlying src, P.underlying dst with
    | some (.int _), some (.int k) => some (.conv k x)
    | some .string, some .string => some (.cstr x)
    | some (.slice e), some (.slice _) => match P.underlying e with
      | some (.int .u8) => if src == dst then some (.strish x) else none
      | _ => none
    | some .string, some (.slice e) => match P.underlying e, szP P e with
      | some (.int .u8), some 1 => some (.s2b x)
      | _, _ => none
    | some (.slice e), some .string => match P.underlying e, szP P e with
      | some (.int .u8), some 1 => some (.b2s x)
      | _, _ => none
    | some (.pointer t), some .unsafePointer => match szP P t with
      | some n => if n = 0 then none else some (.toU x)
      | none => none
    | some .unsafePointer, some (.pointer u) => match szP P u with
      | some n => if n = 0 then none else some (.fromU (oklP P u) x)
      | none => none
    | _, _ => none
  | .sliceToArrayPointer t x => match P.underlying t with
    | some (.array n _) => if n = 0 then none else some (.s2a n x)
    | _ => none
  | .makeInterface t x => match P.underlying t with
    | some (.interface _) => none
    | some _ => some (.mkIface t x)
    | none => none
  | .makeFunc fn first captured => some (.mkFunc fn first.toList captured.toList)
  | .makeMap t none => some .mkMap
  | .makeSlice t l c =>
    match P.underlying t with
    | some (.slice e) => match szP P e, byP P e, zeP P e with
      | some n, some b, some z => if n = 0 || z.cells.size ≠ n || !z.cells.toList.all Value.oneCell' then none else some (.mkSlice n b z.cells.toList l c)
      | _, _, _ => none
    | _ => none
  | .slice t x lo hi mx =>
    match P.underlying t with
    | some (.slice e) => match szP P e with
      | some n => if n = 0 || (mx.isSome && hi.isNone) then none else some (.slice n x lo hi mx)
      | none => none
    | some .string => match mx with | none => some (.sliceStr x lo hi) | some _ => none
    | _ => none
  | .fieldAddr s x f =>
    match P.underlying s with
    | some (.struct fs) => match fs[f]? with
      | some fl => match szP P fl.type with
        | some n => if n = 0 then none else some (.fieldAddr fl.offset x)
        | none => none
      | none => none
    | _ => none
  | .field t x f =>
    match P.underlying t with
    | some (.struct fs) => match fs[f]? with
      | some fl => match aggP P fl.type, szP P fl.type with
        | some true, some n => some (.field true fl.offset n x)
        | some false, some 1 => some (.field false fl.offset 1 x)
        | _, _ => none
      | none => none
    | _ => none
  | .indexAddr t x i =>
    match P.underlying t with
    | some (.slice e) => match szP P e with
      | some n => if n = 0 then none else some (.indexAddr n x i)
      | none => none
    | some (.array len e) => match szP P e with
      | some n => if n = 0 then none else some (.indexAddrArr n len x i)
      | none => none
    | _ => none
  | .index t x i =>
    match P.underlying t with
    | some (.array len e) => match aggP P e, szP P e with
      | some true, some n => if n = 0 then none else some (.indexArr true n len x i)
      | some false, some 1 => some (.indexArr false 1 len x i)
      | _, _ => none
    | some .string => some (.indexStr x i)
    | _ => none
  | .lookup t x k ok =>
    match P.underlying t with
    | some (.map kt e) => match zeP P e, aggP P e with
      | some z, some a => match keyP P kt with
        | some ks => if lkOk z a then some (.lookup ks z.cells.toList a ok x k) else none
        | none => none
      | _, _ => none
    | _ => none
  | .mapUpdate t m k v =>
    match P.underlying t with
    | some (.map kt _) => match keyP P kt with
      | some ks => some (.mapSet ks m k v)
      | none => none
    | _ => none
  | .extract t i => some (.extract t i)
  | .call c =>
    match c.callee with
    | .value (.func f) => if goodF P f then some (.call f c.args.toList) else noEsc P f c.args.toList
    | .value x => some (.callv x c.args.toList)
    | .invoke x name => some (.invoke x name ((candsP P name (List.range P.types.size)).filter fun p => goodF P p.2) c.args.toList)
    | .builtin .append =>
      match c.args.toList, c.argTypes.toList with
      | [x, y], [tx, ty] =>
        match P.underlying tx, P.underlying ty with
        | some (.slice e), some (.slice _) | some (.slice e), some .string =>
          match szP P e, byP P e, zeP P e with
          | some n, some b, some z => if n = 0 || b = 0 || z.cells.size ≠ n then none else match P.underlying e with
            | some (.int .u8) => if n = 1 && b = 1 then some (.appendB x y) else none
            | _ => some (.append n b x y)
          | _, _, _ => none
        | _, _ => none
      | _, _ => none
    | .builtin .len =>
      match c.args.toList, c.argTypes.toList with
      | [x], [t] => match P.underlying t with
        | some .string => some (.len 0 x)
        | some (.slice _) => some (.len 1 x)
        | some (.map _ _) => some (.len 2 x)
        | _ => none
      | _, _ => none
    | .builtin .copy =>
      match c.args.toList, c.argTypes.toList with
      | [x, y], [tx, _] => match P.underlying tx with
        | some (.slice e) => match szP P e with
          | some n => if n = 0 then none else some (.copy n x y)
          | none => none
        | _ => none
      | _, _ => none
    | .builtin .min => match c.args.toList with
      | x :: l => some (.minmax false x l)
      | [] => none
    | .builtin .max => match c.args.toList with
      | x :: l => some (.minmax true x l)
      | [] => none
    | .builtin .unsafeSliceData => match c.args.toList with
      | [x] => some (.sdata x)
      | _ => none
    | .builtin .unsafeString => match c.args.toList, c.argTypes.toList with
      | [x, l], [pt, _] => match P.underlying pt with
        | some (.pointer e) => match P.underlying e, szP P e with
          | some (.int .u8), some 1 => some (.ustr x l)
          | _, _ => none
        | _ => none
      | _, _ => none
    | .builtin .clear => match c.args.toList, c.argTypes.toList with
      | [x], [t] => match P.underlying t with
        | some (.slice e) => match szP P e, zeP P e with
          | some n, some z => if n = 0 || z.cells.size ≠ n || !z.cells.toList.all Value.oneCell' then none else some (.clr n z.cells.toList x)
          | _, _ => none
        | _ => none
      | _, _ => none
    | .builtin _ => none
  | .panic x => some (.panic x)
  | .typeAssert x _ ty ok => match P.underlying ty with
    | some (.interface _) => none
    | some _ => match zeP P ty, aggP P ty with
      | some z, some a => if lkOk z a then some (.tassert ty z.cells.toList a ok x) else none
      | _, _ => none
    | none => none
  | .range t x => match P.underlying t with
    | some .string => some (.rngS x)
    | _ => none
  | .next it s => if s then some (.nxtS it) else none
  | _ => none
/-- An operation that the machine does not know is one at which it comes to nothing. -/
def compOper (all : Array Oper) (o : Oper) : Option EOp :=
  match o.guard with
  | none => some ⟨o.dst, (compOp P o.op).getD .bad, none⟩
  | some (j, want) => match (all[j]?).bind (·.dst) with
    | some g => some ⟨o.dst, (compOp P o.op).getD .bad, some (g, want)⟩
    | none => none
def compOps (all : Array Oper) : List Oper → Option (List EOp)
  | [] => some []
  | o :: l => match compOper P all o, compOps all l with
    | some e, some r => some (e :: r)
    | _, _ => none
/-- does an instruction make or write memory, or call? -/
def isX : EI → Bool
  | .alloc _ | .box _ | .buildSlice .. | .store .. | .mkMap | .mkSlice .. | .s2b _ | .append .. | .copy .. | .mapSet .. | .call .. | .callv .. | .invoke .. | .bad => true
  | .panic _ | .rngS _ | .nxtS _ | .allocB .. | .toU _ | .fromU .. | .sdata _ | .ustr .. | .appendB .. | .boxB .. | .clr .. => true
  | _ => false
/-- does an instruction read own memory? -/
def isRd : EI → Bool
  | .load .. | .lookup .. | .b2s _ | .strish _ | .len (_ + 2) _ | .again .. => true
  | _ => false
def nthO (l : List EOp) (i : Nat) : EOp := l.getD i ⟨none, .mov (.const (.bool false)), none⟩
def bitB (bf : Array Nat) (j i : Nat) : Bool := (bf.getD j 0).testBit i
/-- in a region that draws its order: how many of the operations that write a place waits for -/
def rankX (bf : Array Nat) (xs : List Nat) (i : Nat) : Nat := (xs.filter fun x => bitB bf i x).length
/-- the order of a region that draws its order: what is quiet comes as early as it can -/
def orderX (bf : Array Nat) (all xs : List Nat) : Nat → List Nat → List Nat
  | k, [] => all.filter fun i => !xs.contains i && rankX bf xs i == k
  | k, x :: l => (all.filter fun i => !xs.contains i && rankX bf xs i == k) ++ x :: orderX bf all xs (k + 1) l
def eiOps : EI → List Operand
  | .mov x | .box x | .nilCheck x | .un _ x | .conv _ x | .cstr x | .s2b x | .b2s x | .strish x | .mkIface _ x | .load _ _ x | .s2a _ x | .fieldAddr _ x
  | .field _ _ _ x | .extract x _ | .len _ x => [x]
  | .panic x | .tassert _ _ _ _ x | .rngS x | .nxtS x | .toU x | .fromU _ x | .sdata x | .same x | .boxB _ _ x | .clr _ _ x => [x]
  | .ustr x l => [x, l]
  | .appendB x y | .peq _ _ x y | .ieq _ _ x y => [x, y]
  | .pick c a b => [c, a, b]
  | .alloc _ | .allocB .. | .mkMap | .bad => []
  | .build _ ps => ps.map fun p => p.2.2
  | .buildSlice _ _ _ ps => ps.map fun p => p.2.2
  | .store _ x v => [x, v]
  | .bin _ x y _ => [x, y]
  | .mkFunc _ a b => a ++ b
  | .mkSlice _ _ _ l c => [l, c]
  | .slice _ x lo hi mx => x :: (lo.toList ++ hi.toList ++ mx.toList)
  | .sliceStr x lo hi => x :: (lo.toList ++ hi.toList)
  | .indexAddr _ x i | .indexAddrArr _ _ x i | .indexArr _ _ _ x i | .indexStr x i => [x, i]
  | .lookup _ _ _ _ x k => [x, k]
  | .mapSet _ x k v => [x, k, v]
  | .call _ args => args
  | .callv x args | .invoke x _ _ args => x :: args
  | .append _ _ x y | .copy _ x y => [x, y]
  | .minmax _ x l => x :: l
  | .again d _ _ x => [.tmp d, x]
  | .apart x y => [x, y]
/-- does an operation look at a place? -/
def looksAtE (d : Nat) (o : EOp) : Bool :=
  (eiOps o.i).any (fun x => match x with | .tmp t => t == d | _ => false) || (match o.guard with | some (g, _) => g == d | none => false)
/-- does an operation look at what another one writes? -/
def touches (x y : EOp) : Bool :=
  match x.dst with
  | some d => looksAtE d y
  | none => false
def sameDst (x y : EOp) : Bool :=
  match x.dst, y.dst with
  | some d, some e => d == e
  | _, _ => false
/-- two writes that may change places -/
def swapE (es : List EOp) (p q : Nat) : Bool :=
  match nthO es p, nthO es q with
  | ⟨none, .store _ _ _, none⟩, ⟨none, .store _ _ _, none⟩ => true
  | _, _ => false
def apartO (es : List EOp) (p q : Nat) : List EOp :=
  match nthO es p, nthO es q with
  | ⟨none, .store _ x _, none⟩, ⟨none, .store _ y _, none⟩ => [⟨none, .apart x y, none⟩]
  | _, _ => []
/-- p may stand ahead of q -/
def pairOk (bf : Array Nat) (es : List EOp) (p q : Nat) : Bool :=
  !(p == q) && !bitB bf p q && (!isX (nthO es p).i || bitB bf q p || swapE es p q) && !sameDst (nthO es p) (nthO es q) &&
    (bitB bf q p || (!touches (nthO es p) (nthO es q) && !touches (nthO es q) (nthO es p)))
def pairsOk (bf : Array Nat) (es : List EOp) : List Nat → Bool
  | [] => true
  | p :: l => l.all (pairOk bf es p) && pairsOk bf es l
/-- the masks are what the edges say -/
def closedOk (bf : Array Nat) (n : Nat) : Nat → List Oper → Bool
  | _, [] => true
  | j, o :: l => ((List.range n).all fun i => !bitB bf j i || o.after.toList.any fun e => Region.binds .any e && (e.on == i || bitB bf e.on i)) &&
      (o.after.toList.all fun e => !Region.binds .any e || (Nat.blt e.on j && bitB bf j e.on)) && closedOk bf n (j + 1) l
/-- what is to be looked at again behind a writing operation x. since: what stands behind the reading one; back: what stands ahead of x, from the last on -/
def againsX (bf : Array Nat) (es : List EOp) (x : Nat) : List Nat → List Nat → Option (List EOp)
  | _, [] => some []
  | since, r :: l =>
    match againsX bf es x (r :: since) l with
    | none => none
    | some rest =>
      if isRd (nthO es r).i && !bitB bf x r then
        if (r :: since).all fun q => !touches (nthO es q) (nthO es r) then
          match (nthO es r).i, (nthO es r).dst with
          | .load agg n y, some d => some (⟨none, .again d agg n y, (nthO es r).guard⟩ :: rest)
          | _, _ => none
        else none
      else some rest
/-- a new variable, zero, with no test ahead -/
def isAl (o : EOp) : Bool :=
  match o.i, o.guard, o.dst with
  | .alloc z, none, some _ => allOne (litL z)
  | _, _, _ => false
/-- the variables that an operation looks at; the others -/
def mineX (es : List EOp) (als : List Nat) (x : Nat) : List Nat := als.filter fun a => touches (nthO es a) (nthO es x)
def restX (es : List EOp) (als : List Nat) (x : Nat) : List Nat := als.filter fun a => !touches (nthO es a) (nthO es x)
/-- als: the variables that are still to be made: each ahead of what first looks at it, or at the end -/
def emitX (bf : Array Nat) (es : List EOp) : List Nat → List Nat → List Nat → Option (List EOp)
  | als, _, [] => some (als.map (nthO es))
  | als, back, i :: l =>
    if isX (nthO es i).i then
      match againsX bf es i [] back, emitX bf es (restX es als i) back l with
      | some ag, some rest => some ((mineX es als i).map (nthO es) ++ nthO es i :: (ag ++ rest))
      | _, _ => none
    else match emitX bf es als (i :: back) l with
      | some rest => some (nthO es i :: rest)
      | none => none
/-- what looks at a new variable waits for it, and writes -/
def alOk (bf : Array Nat) (es : List EOp) (n : Nat) (a : Nat) : Bool :=
  (List.range n).all fun j => a == j || (!sameDst (nthO es a) (nthO es j) && (!touches (nthO es a) (nthO es j) || (isX (nthO es j).i && !isAl (nthO es j) && bitB bf j a)))
/-- whatever writes stands in its place -/
def strictL (bf : Array Nat) (es : List EOp) : List Nat → Bool
  | [] => true
  | p :: l => (!isX (nthO es p).i || l.all fun q => bitB bf q p) && strictL bf es l
/-- but for two writes at the end -/
def tailX (bf : Array Nat) (es : List EOp) (n : Nat) (als ord : List Nat) : Option (List EOp) :=
  if strictL bf es ord then some [] else
  match ord.reverse with
  | q :: p :: r => if strictL bf es (r.reverse ++ [p]) && strictL bf es (r.reverse ++ [q]) && als.isEmpty && (List.range n).all (fun i => !isRd (nthO es i).i || (bitB bf p i && bitB bf q i)) then some (apartO es p q) else none
  | _ => none
def compDraw (ops : Array Oper) : Option (List EOp) :=
  match compOps P ops ops.toList with
  | none => none
  | some es =>
    let bf := Region.before ops
    let als := (List.range ops.size).filter fun i => isAl (nthO es i)
    let all := (List.range ops.size).filter fun i => !isAl (nthO es i)
    let xs := all.filter fun i => isX (nthO es i).i
    let ord := orderX bf all xs 0 xs
    if pairsOk bf es ord && closedOk bf ops.size 0 ops.toList && als.all (alOk bf es ops.size) && all.all (fun i => ord.contains i) && ord.all (fun i => Nat.blt i ops.size && !isAl (nthO es i)) then
      match emitX bf es als [] ord, tailX bf es ops.size als ord with
      | some l, some r => some (l ++ r)
      | _, _ => none
    else none
def ET.pre (o : EOp) : ET → ET
  | .done l => .done (o :: l)
  | .fork l a b => .fork (o :: l) a b
def forkL : List ET → ET
  | [] => .done [⟨none, .bad, none⟩]
  | [c] => c
  | c :: cs => .fork [] c (forkL cs)
/-- each of some operations first; so many forks at most -/
def forkB (f : Nat → Nat → Option (ET × Nat)) : List Nat → Nat → Option (List ET × Nat)
  | [], b => some ([], b)
  | _ :: _, 0 => none
  | j :: js, b + 1 => match f j b with
    | none => none
    | some (t, b1) => match forkB f js b1 with
      | none => none
      | some (ts, b2) => some (t :: ts, b2)
/-- all orders that may be drawn -/
def treeA (ops : Array Oper) (es : List EOp) : Nat → Nat → Array Bool → Option (ET × Nat)
  | 0, b, listed => match Region.ready .any ops listed with
    | [] => some (.done [], b)
    | _ => none
  | n + 1, b, listed => match Region.ready .any ops listed with
    | [] => some (.done [], b)
    | [j] => match treeA ops es n b (listed.setIfInBounds j true) with
      | none => none
      | some (t, b) => some (t.pre (nthO es j), b)
    | js => match forkB (fun j b => match treeA ops es n b (listed.setIfInBounds j true) with
        | none => none
        | some (t, b) => some (t.pre (nthO es j), b)) js b with
      | none => none
      | some (ts, b) => some (forkL ts, b)
/-- A small region that no one order stands for. -/
def compAny (ops : Array Oper) : Option ET :=
  match compOps P ops ops.toList with
  | none => none
  | some es => (treeA ops es ops.size 30 (Array.replicate ops.size false)).map (·.1)
/-- a region that the machine does not know: it comes to nothing there -/
def badT : ET := .done [⟨none, .bad, none⟩]
def compC : Code → Option EC
  | .skip => some .skip
  | .region _ ops false => (compOps P ops ops.toList).map .ops
  | .region _ ops true => match compDraw P ops with
    | some l => some (.ops l)
    | none => match compAny P ops with
      | some t => some (.any t)
      | none => some (.any badT)
  | .seq a b => match compC a, compC b with
    | some x, some y => some (.seq x y)
    | _, _ => none
  | .cond c a b => match compC a, compC b with
    | some x, some y => some (.cond c x y)
    | _, _ => none
  | .block id c => (compC c).map (.block id)
  | .loop c => (compC c).map .loop
  | .exit id => some (.exit id)
  | .ret => some .ret
  | .rangeFunc x ps a c => match compC a, compC c with
    | some ea, some ec => some (.rf x ps.toList ea ec)
    | _, _ => none
  | .refuse _ => some (.any badT)
  | _ => none
end
end Go.Proofs.YtpgeonghlabnhaaGreatDoor.Em
