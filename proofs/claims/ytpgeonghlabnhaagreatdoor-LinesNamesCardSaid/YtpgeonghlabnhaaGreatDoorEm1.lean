/- Em1: an abstract deterministic machine over the model's operations: values, instructions, one step, a run up to the next event. Definitions alone; no conditions. -/
import Derived.Orders
import Derived.LoopN
import Derived.Below
set_option linter.unusedVariables false
namespace Go.Proofs.YtpgeonghlabnhaaGreatDoor.Em
open Go
/-- A value: what is own memory is named by a number of its own; what is handed in and never written is a tree of cells. -/
inductive EV where
  | lit (v : Value)
  | sb (b : Bool)
  | ptr (id off : Nat)
  | eptr (id off : Nat)
  | sl (es id off len : Nat) (cap : Option Nat)
  | mp (id : Nat)
  | iptr (c : List EV) (off : Nat)
  | isl (n : Nat) (cap : Option Nat) (c : List EV)
  | fn (f : Fn) (first captured : List EV)
  | iface (t : TypeId) (v : EV)
  | agg (c : List EV)
  | tup (c : List EV)
  | top
  | yl (id : Nat)
  | nb (id e n : Nat)
  | nbuf
/-- An instruction: an operation of the model with its types looked up. -/
inductive EI where
  | mov (x : Operand)
  | pick (c a b : Operand)
  | alloc (zero : List Value)
  | box (x : Operand)
  | build (zero : List Value) (parts : List (Nat × Nat × Operand))
  | buildSlice (es n : Nat) (zero : List Value) (parts : List (Nat × Nat × Operand))
  | load (agg : Bool) (n : Nat) (x : Operand)
  | store (n : Nat) (x v : Operand)
  | nilCheck (x : Operand)
  | bin (op : BinOp) (x y : Operand) (td : Option TypeDesc)
  | un (op : UnOp) (x : Operand)
  | conv (k : IntKind) (x : Operand)
  | cstr (x : Operand)
  | s2b (x : Operand)
  | b2s (x : Operand)
  | strish (x : Operand)
  | mkIface (t : TypeId) (x : Operand)
  | mkFunc (f : Fn) (first captured : List Operand)
  | mkMap
  | mkSlice (es bytes : Nat) (zero : List Value) (l c : Operand)
  | slice (es : Nat) (x : Operand) (lo hi mx : Option Operand)
  | sliceStr (x : Operand) (lo hi : Option Operand)
  | s2a (n : Nat) (x : Operand)
  | fieldAddr (off : Nat) (x : Operand)
  | field (agg : Bool) (off n : Nat) (x : Operand)
  | indexAddr (es : Nat) (x i : Operand)
  | indexAddrArr (es len : Nat) (x i : Operand)
  | indexArr (agg : Bool) (es len : Nat) (x i : Operand)
  | indexStr (x i : Operand)
  | lookup (ks : Nat) (zero : List Value) (isAgg ok : Bool) (x k : Operand)
  | mapSet (ks : Nat) (x k v : Operand)
  | extract (x : Operand) (i : Nat)
  | call (f : FuncId) (args : List Operand)
  | callv (x : Operand) (args : List Operand)
  | invoke (x : Operand) (name : String) (cands : List (TypeId × FuncId)) (args : List Operand)
  | append (es bytes : Nat) (x y : Operand)
  | len (k : Nat) (x : Operand)
  | copy (es : Nat) (x y : Operand)
  | minmax (mx : Bool) (x : Operand) (rest : List Operand)
  | again (d : Nat) (agg : Bool) (n : Nat) (x : Operand)
  | apart (x y : Operand)
  | panic (x : Operand)
  | tassert (t : TypeId) (zero : List Value) (isAgg ok : Bool) (x : Operand)
  | rngS (x : Operand)
  | nxtS (x : Operand)
  | allocB (e n : Nat) (zero : List Value)
  | toU (x : Operand)
  | fromU (okl : List (Nat × Nat × Nat)) (x : Operand)
  | sdata (x : Operand)
  | ustr (x l : Operand)
  | same (x : Operand)
  | appendB (x y : Operand)
  | peq (op : BinOp) (el : TypeId) (x y : Operand)
  | boxB (e n : Nat) (x : Operand)
  | ieq (op : BinOp) (il : List Nat) (x y : Operand)
  | clr (es : Nat) (zero : List Value) (x : Operand)
  | bad
structure EOp where
  dst : Option Nat
  i : EI
  guard : Option (Nat × Bool)
/-- A region whose order is drawn: a piece, and at its end one of two others. -/
inductive ET where
  | done (l : List EOp)
  | fork (l : List EOp) (a b : ET)
inductive EC where
  | skip
  | ops (l : List EOp)
  | seq (a b : EC)
  | cond (x : Operand) (a b : EC)
  | block (id : Nat) (c : EC)
  | loop (c : EC)
  | exit (id : Nat)
  | ret
  | rf (x : Operand) (ps : List Nat) (asg body : EC)
  | any (t : ET)
/-- A block of own memory. -/
inductive EO where
  | dead
  | blk (c : List EV)
  | emap (es : List (EV × EV))
  | lp (t : List EV) (ps : List Nat) (asg body : EC) (st : Nat) (pd : Option (Option Nat))
  | row (s : ByteArray)
  | itr (s : ByteArray) (pos : Nat)
abbrev EH := List EO
/-- What a run leaves unreckoned where it is over variables. -/
structure Ar where
  ib : BinOp → IntKind → Int → Int → Int
  ic : BinOp → Int → Int → Bool
  sh : BinOp → IntKind → Int → Int → Int
  wr : IntKind → Int → Int
  xr : IntKind → Int → Int
  ss : BinOp → ByteArray → ByteArray → Bool
  cat : ByteArray → ByteArray → ByteArray
  bsz : ByteArray → Nat
  bat : ByteArray → Nat → Int
  bex : ByteArray → Nat → Nat → ByteArray
  enc : ByteArray → List EV
  dec : List EV → ByteArray
  tn : Int → Nat
  ofn : Nat → Int
  add : Nat → Nat → Nat
  sub : Nat → Nat → Nat
  mul : Nat → Nat → Nat
  idx : Nat → Int → Nat → Nat
  nmin : Nat → Nat → Nat
  imin : Int → Int → Int
  imax : Int → Int → Int
  nn : Int → Bool
  ne0 : Int → Bool
  isz : Nat → Bool
  le : Nat → Nat → Bool
  inb : Int → Nat → Bool
  slb : Int → Int → Nat → Bool
  room : Nat → Nat → Bool
  mks : Nat → Int → Int → Bool
  bnot : Bool → Bool
  beq : Bool → Bool → Bool
  drp : Nat → List EV → List EV
  tak : Nat → List EV → List EV
  app : List EV → List EV → List EV
  setl : List EV → Nat → List EV → List EV
  rep : List EV → Nat → List EV
  len : List EV → Nat
  byt : Nat → List EV → Bool
  keyed : Nat → List (EV × EV) → EV → Bool
  find : List (EV × EV) → EV → Option EV
  mset : List (EV × EV) → EV → EV → List (EV × EV)
  mlen : List (EV × EV) → Nat
  rn : ByteArray → Nat → Int
  rw : ByteArray → Nat → Nat
structure St where
  t : List EV
  h : EH
inductive KI where
  | c (c : EC)
  | ops (l : List EOp)
  | blk (id : Nat)
  | mark (R : St → Prop)
  | lp (c : EC)
/-- What one instruction comes to. -/
inductive SR where
  | stuck
  | ret (v : EV) (h : EH)
  | need (b : Bool) (r : SR)
  | look (c : List EV) (off n : Nat) (agg : Bool) (h : EH)
  | br (b : Bool) (v1 : EV) (h1 : EH) (v2 : EV) (h2 : EH)
  | opt (o : Option EV) (ok : Bool) (z : EV) (h : EH)
  | call (f : FuncId) (args : List EV)
  | same (v w : EV) (h : EH)
  | lookS (c : List EV) (off n : Nat) (agg : Bool) (w : EV) (h : EH)
/-- What a run comes to. -/
inductive Out where
  | stuck
  | need (b : Bool) (o : Out)
  | br (b : Bool) (k1 : List KI) (s1 : St) (k2 : List KI) (s2 : St)
  | look (c : List EV) (off n : Nat) (agg : Bool) (dst : Option Nat) (k : List KI) (s : St)
  | opt (o : Option EV) (ok : Bool) (z : EV) (dst : Option Nat) (k : List KI) (s : St)
  | call (f : FuncId) (args : List EV) (dst : Option Nat) (k : List KI) (s : St)
  | same (v w : EV) (o : Out)
  | lookS (c : List EV) (off n : Nat) (agg : Bool) (w : EV) (o : Out)
  | loop (c : EC) (k : List KI) (s : St)
  | again (c : EC) (k : List KI) (s : St)
  | back (R : St → Prop) (s : St)
  | done (s : St)
  | pause (k : List KI) (s : St)
/-- stands for the round of a loop over a function, where a function is called -/
def roundF : FuncId := 4294967295
def undefE : EV := .lit (.tuple #[])
/-- what a test came to: none: it was passed over itself -/
def gdE : EV → Option (Option Bool)
  | .lit (.bool b) => some (some b)
  | .lit (.tuple _) => some none
  | _ => none
def getT : List EV → Nat → EV
  | [], _ => undefE
  | x :: _, 0 => x
  | _ :: l, n + 1 => getT l n
def setT : List EV → Nat → EV → List EV
  | [], _, _ => []
  | _ :: l, 0, v => v :: l
  | x :: l, n + 1, v => x :: setT l n v
def getH : EH → Nat → EO
  | [], _ => .dead
  | x :: _, 0 => x
  | _ :: l, n + 1 => getH l n
def setH : EH → Nat → EO → EH
  | [], _, _ => []
  | _ :: l, 0, v => v :: l
  | x :: l, n + 1, v => x :: setH l n v
def pushH : EH → EO → EH
  | [], o => [o]
  | x :: l, o => x :: pushH l o
def sizeH : EH → Nat
  | [] => 0
  | _ :: l => sizeH l + 1
/-- n cells from a place on, of a list that is written out. -/
def rd : List EV → Nat → Nat → Option (List EV)
  | _, 0, 0 => some []
  | [], _, _ => none
  | _ :: l, off + 1, n => rd l off n
  | x :: l, 0, n + 1 => match rd l 0 n with | some r => some (x :: r) | none => none
/-- cells laid over others from a place on, in a list that is written out. -/
def wrt : List EV → Nat → List EV → Option (List EV)
  | l, 0, [] => some l
  | [], _, _ => none
  | x :: l, off + 1, vs => match wrt l off vs with | some r => some (x :: r) | none => none
  | _ :: l, 0, v :: vs => match wrt l 0 vs with | some r => some (v :: r) | none => none
def litL : List Value → List EV
  | [] => []
  | v :: l => .lit v :: litL l
def ofV : Value → EV
  | .agg cs => .agg (litL cs.toList)
  | v => .lit v
def cellsE : EV → List EV
  | .agg c => c
  | .lit (.agg cs) => litL cs.toList
  | v => [v]
def lenL : List EV → Nat
  | [] => 0
  | _ :: l => lenL l + 1
def mkV (agg : Bool) (c : List EV) : Option EV :=
  match agg, c with
  | true, c => some (.agg c)
  | false, [v] => some v
  | false, _ => none
def putT (t : List EV) (dst : Option Nat) (v : EV) : List EV :=
  match dst with
  | some d => setT t d v
  | none => t
/-- a value of one cell, as far as can be seen -/
def oneE : EV → Bool
  | .agg _ | .tup _ | .lit (.agg _) | .lit (.tuple _) | .top => false
  | _ => true
def allOne : List EV → Bool
  | [] => true
  | x :: l => if oneE x then allOne l else false
variable (A : Ar) (G : List (List EV))
def evalO (t : List EV) : Operand → EV
  | .tmp i => getT t i
  | .const v => ofV v
  | .global g => match G[g]? with | some c => .iptr c 0 | none => .lit (.pointer (some ⟨g, 0, none⟩))
  | .func f => .fn (.func f) [] []
def evalL (t : List EV) : List Operand → List EV
  | [] => []
  | x :: l => evalO G t x :: evalL t l
/-- parts laid into cells that are written out -/
def fillE (t : List EV) : List EV → List (Nat × Nat × Operand) → Option (List EV)
  | cs, [] => some cs
  | cs, (off, n, x) :: l =>
    let v := cellsE (evalO G t x)
    if lenL v == n then if allOne v then match wrt cs off v with | some r => fillE t r l | none => none else none else none
def isCmp : BinOp → Bool
  | .eql | .neq | .lss | .leq | .gtr | .geq => true
  | _ => false
/-- Is a value of a type, held against nil, none? (some true: nil) -/
def nilE (td : TypeDesc) (x : EV) : Option Bool :=
  match td with
  | .slice _ => match x with
    | .lit (.slice none _ _) => some true
    | .nbuf => some true
    | .sl .. | .isl _ (some _) _ => some false
    | _ => none
  | .map _ _ => match x with
    | .lit (.map none) => some true
    | .mp _ => some false
    | _ => none
  | .func _ _ _ => match x with
    | .lit .nilFunc => some true
    | .fn .. => some false
    | _ => none
  | .interface _ => match x with
    | .lit .nilIface => some true
    | .iface .. => some false
    | _ => none
  | .pointer _ => match x with
    | .lit (.pointer none) => some true
    | .nb .. => some true
    | .ptr .. | .eptr .. | .iptr .. => some false
    | _ => none
  | _ => none
def eqNil (op : BinOp) (td : TypeDesc) (x y : EV) (h : EH) : SR :=
  match op, nilE td x, nilE td y with
  | .eql, some true, some b => .ret (.lit (.bool b)) h
  | .eql, some false, some true => .ret (.lit (.bool false)) h
  | .neq, some true, some true => .ret (.lit (.bool false)) h
  | .neq, some true, some false => .ret (.lit (.bool true)) h
  | .neq, some false, some true => .ret (.lit (.bool true)) h
  | .eql, none, some true => match td, x with
    | .slice _, .isl n none _ => .need (A.bnot (A.isz n)) (.ret (.lit (.bool false)) h)
    | _, _ => .stuck
  | .neq, none, some true => match td, x with
    | .slice _, .isl n none _ => .need (A.bnot (A.isz n)) (.ret (.lit (.bool true)) h)
    | _, _ => .stuck
  | _, _, _ => .stuck
/-- Two pointers held against each other: the same ones, or one is nil. -/
def peqE (op : BinOp) (el : TypeId) (x y : EV) (h : EH) : SR :=
  match x, y with
  | .ptr i o, .ptr j p => if Nat.beq i j && Nat.beq o p then match op with
      | .eql => .ret (.lit (.bool true)) h
      | .neq => .ret (.lit (.bool false)) h
      | _ => .stuck
    else .stuck
  | x, y => eqNil A op (.pointer el) x y h
def memI : Nat → List Nat → Bool
  | _, [] => false
  | a, x :: l => Nat.beq a x || memI a l
def notIf (op : BinOp) (b : Bool) : Option Bool :=
  match op with
  | .eql => some b
  | .neq => some (!b)
  | _ => none
/-- two values of an interface's type, neither the literal nil, compared -/
def ieqE (op : BinOp) (il : List Nat) (x y : EV) (h : EH) : SR :=
  match x, y with
  | .iface t1 v1, .iface t2 v2 => if Nat.beq t1 t2 then match v1, v2 with
      | .lit (.int k a), .lit (.int k' b) => if memI t1 il then if k = k' then match op with
          | .eql => .ret (.sb (A.ic .eql a b)) h
          | .neq => .ret (.sb (A.ic .neq a b)) h
          | _ => .stuck
        else .stuck else .stuck
      | _, _ => .stuck
    else match notIf op false with
      | some b => .ret (.lit (.bool b)) h
      | none => .stuck
  | .iface _ _, .lit .nilIface => match notIf op false with
    | some b => .ret (.lit (.bool b)) h
    | none => .stuck
  | .lit .nilIface, .iface _ _ => match notIf op false with
    | some b => .ret (.lit (.bool b)) h
    | none => .stuck
  | _, _ => .stuck
def boolE : EV → Option Bool
  | .lit (.bool b) => some b
  | .sb b => some b
  | _ => none
def binE (op : BinOp) (x y : EV) (td : Option TypeDesc) (h : EH) : SR :=
  match x, y with
  | .lit (.int k a), .lit (.int k' b) =>
    match op with
    | .shl | .shr => .need (A.nn b) (.ret (.lit (.int k (A.sh op k a b))) h)
    | _ =>
      if k = k' then
        match op with
        | .quo | .rem => .need (A.ne0 b) (.ret (.lit (.int k (A.ib op k a b))) h)
        | .add | .sub | .mul | .and | .or | .xor | .andNot => .ret (.lit (.int k (A.ib op k a b))) h
        | .eql | .neq | .lss | .leq | .gtr | .geq => .ret (.sb (A.ic op a b)) h
        | _ => .stuck
      else .stuck
  | .lit (.string a), .lit (.string b) =>
    match op with
    | .add => .need (A.le (A.add (A.bsz a) (A.bsz b)) 9223372036854775807) (.ret (.lit (.string (A.cat a b))) h)
    | .eql | .neq | .lss | .leq | .gtr | .geq => .ret (.sb (A.ss op a b)) h
    | _ => .stuck
  | x, y =>
    match td with
    | some .bool =>
      match op, boolE x, boolE y with
      | .eql, some a, some b => .ret (.sb (A.beq a b)) h
      | .neq, some a, some b => .ret (.sb (A.bnot (A.beq a b))) h
      | _, _, _ => .stuck
    | some td => eqNil A op td x y h
    | none => .stuck
def capSub (c : Option Nat) (l : Nat) : Option Nat :=
  match c with
  | some k => some (A.sub k l)
  | none => none
/-- an optional bound of a slice expression -/
def boundE (t : List EV) : Option Operand → Option (Option Int)
  | none => some none
  | some x => match evalO G t x with
    | .lit (.int _ n) => some (some n)
    | _ => none
def orI (o : Option Int) (d : Int) : Int := match o with | some n => n | none => d
/-- the source of an append or a copy: how many, and which cells -/
def srcE (es : Nat) (h : EH) : EV → Option (Nat × List EV)
  | .lit (.slice none 0 0) => some (0, [])
  | .isl n _ c => some (n, A.tak (A.mul n es) c)
  | .sl es' id off n _ => if es' = es then match getH h id with
    | .blk c => some (n, A.tak (A.mul n es) (A.drp off c))
    | .row s => if es = 1 then some (n, A.tak n (A.drp off (A.enc s))) else none
    | _ => none else none
  | .nbuf => some (0, [])
  | .lit (.string s) => if es = 1 then some (A.bsz s, A.enc s) else none
  | _ => none
def appendE (es bytes : Nat) (x y : EV) (h : EH) : SR :=
  match srcE A es h y with
  | none => .stuck
  | some (n, ys) =>
    .need (A.le (A.mul n es) (A.len ys))
    (match x with
    | .lit (.slice none 0 0) =>
      .need (A.room n bytes) (.br (A.isz n) (.lit (.slice none 0 0)) h (.sl es (sizeH h) 0 n none) (pushH h (.blk ys)))
    | .sl es' id off len cap =>
      if es' = es then
        match getH h id, cap with
        | .blk c, none =>
          .need (A.le (A.add off (A.mul len es)) (A.len c)) (.need (A.room (A.add len n) bytes)
            (.ret (.sl es (sizeH h) 0 (A.add len n) none) (pushH (setH h id .dead) (.blk (A.app (A.tak (A.mul len es) (A.drp off c)) ys)))))
        | .blk c, some k =>
          .need (A.le (A.add off (A.mul k es)) (A.len c)) (.need (A.le len k) (.need (A.room (A.add len n) bytes)
            (.br (A.le (A.add len n) k)
              (.sl es id off (A.add len n) (some k)) (setH h id (.blk (A.setl c (A.add off (A.mul len es)) ys)))
              (.sl es (sizeH h) 0 (A.add len n) none) (pushH h (.blk (A.app (A.tak (A.mul len es) (A.drp off c)) ys))))))
        | _, _ => .stuck
      else .stuck
    | .isl len (some k) c =>
      .need (A.le (A.mul len es) (A.len c)) (.need (A.room (A.add len n) bytes) (.need (A.bnot (A.le (A.add len n) k))
        (.ret (.sl es (sizeH h) 0 (A.add len n) none) (pushH h (.blk (A.app (A.tak (A.mul len es) c) ys))))))
    | _ => .stuck)
/-- the source of an append to a row of bytes: is it one, how many, which -/
def srcR (h : EH) : EV → Option (Bool × Nat × ByteArray)
  | .lit (.slice none 0 0) => some (true, 0, ByteArray.empty)
  | .nbuf => some (true, 0, ByteArray.empty)
  | .isl n _ c => some (A.byt n c, n, A.dec (A.tak n c))
  | .sl es id off n _ => if es = 1 then match getH h id with
    | .blk c => some (A.byt n (A.drp off c), n, A.dec (A.tak n (A.drp off c)))
    | .row s => some (A.le (A.add off n) (A.bsz s), n, A.bex s off (A.add off n))
    | _ => none else none
  | .lit (.string s) => some (true, A.bsz s, s)
  | _ => none
def appendBE (x y : EV) (h : EH) : SR :=
  match x with
  | .nbuf => match srcR A h y with
    | some (ok, n, s) => .need ok (.need (A.room n 1) (.br (A.isz n) .nbuf h (.sl 1 (sizeH h) 0 n none) (pushH h (.row s))))
    | none => .stuck
  | .sl es id off len cap => match getH h id with
    | .row r => if es = 1 then match cap with
      | none => match srcR A h y with
        | some (ok, n, s) => .need ok (.need (A.le (A.add off len) (A.bsz r)) (.need (A.room (A.add len n) 1)
            (.ret (.sl 1 (sizeH h) 0 (A.add len n) none) (pushH (setH h id .dead) (.row (A.cat (A.bex r off (A.add off len)) s))))))
        | none => .stuck
      | some _ => .stuck
      else .stuck
    | _ => appendE A 1 1 (.sl es id off len cap) y h
  | x => appendE A 1 1 x y h
def intE : EV → Option Int
  | .lit (.int _ n) => some n
  | _ => none
def foldMM (mx : Bool) (k : IntKind) : Int → List EV → Option Int
  | a, [] => some a
  | a, .lit (.int k' b) :: l => if k = k' then foldMM mx k (if mx then A.imax a b else A.imin a b) l else none
  | _, _ :: _ => none
def nthE : List EV → Nat → Option EV
  | [], _ => none
  | x :: _, 0 => some x
  | _ :: l, n + 1 => nthE l n
def appL : List EV → List EV → List EV
  | [], r => r
  | x :: l, r => x :: appL l r
def candOf (t : TypeId) : List (TypeId × FuncId) → Option FuncId
  | [] => none
  | (u, f) :: l => if Nat.beq u t then some f else candOf t l
def pickE (c a b : EV) (h : EH) : SR :=
  match c with
  | .lit (.bool true) => .ret a h
  | .lit (.bool false) => .ret b h
  | .sb v => .br v a h b h
  | _ => .stuck
def boxE (v : EV) (h : EH) : SR :=
  if allOne (cellsE v) then .ret (.ptr (sizeH h) 0) (pushH h (.blk (cellsE v))) else .stuck
def loadE (agg : Bool) (n : Nat) (x : EV) (h : EH) : SR :=
  match x with
  | .ptr id off => match getH h id with
    | .blk c => match rd c off n with
      | some cs => match mkV agg cs with
        | some v => .ret v h
        | none => .stuck
      | none => .stuck
    | _ => .stuck
  | .eptr id off => match getH h id with
    | .blk c => .look c off n agg h
    | _ => .stuck
  | .iptr c off => .look c off n agg h
  | _ => .stuck
def storeE (n : Nat) (x v : EV) (h : EH) : SR :=
  if lenL (cellsE v) == n then if allOne (cellsE v) then
    match x with
    | .ptr id off => match getH h id with
      | .blk c => match wrt c off (cellsE v) with
        | some c' => .ret undefE (setH h id (.blk c'))
        | none => .stuck
      | _ => .stuck
    | .eptr id off => match getH h id with
      | .blk c => .need (A.le (A.add off n) (A.len c)) (.ret undefE (setH h id (.blk (A.setl c off (cellsE v)))))
      | _ => .stuck
    | _ => .stuck
  else .stuck else .stuck
def nilCheckE (x : EV) (h : EH) : SR :=
  match x with
  | .ptr id off => .ret (.ptr id off) h
  | .eptr id off => .ret (.eptr id off) h
  | .iptr c off => .ret (.iptr c off) h
  | .fn (.func f) a b => .ret (.fn (.func f) a b) h
  | _ => .stuck
def unE (op : UnOp) (x : EV) (h : EH) : SR :=
  match op, x with
  | .neg, .lit (.int k n) => .ret (.lit (.int k (A.ib .sub k 0 n))) h
  | .xor, .lit (.int k n) => .ret (.lit (.int k (A.xr k n))) h
  | .not, .lit (.bool true) => .ret (.lit (.bool false)) h
  | .not, .lit (.bool false) => .ret (.lit (.bool true)) h
  | .not, .sb b => .ret (.sb (A.bnot b)) h
  | _, _ => .stuck
def convE (k : IntKind) (x : EV) (h : EH) : SR :=
  match x with
  | .lit (.int _ n) => .ret (.lit (.int k (A.wr k n))) h
  | _ => .stuck
def cstrE (x : EV) (h : EH) : SR :=
  match x with
  | .lit (.string s) => .ret (.lit (.string s)) h
  | _ => .stuck
def s2bE (x : EV) (h : EH) : SR :=
  match x with
  | .lit (.string s) => .need (A.room (A.bsz s) 1) (.ret (.sl 1 (sizeH h) 0 (A.bsz s) none) (pushH h (.blk (A.enc s))))
  | _ => .stuck
def b2sE (x : EV) (h : EH) : SR :=
  match x with
  | .lit (.slice none 0 0) => .ret (.lit (.string ByteArray.empty)) h
  | .isl n _ c => .need (A.byt n c) (.ret (.lit (.string (A.dec (A.tak n c)))) h)
  | .sl es id off n _ => if es = 1 then match getH h id with
    | .blk c => .need (A.byt n (A.drp off c)) (.ret (.lit (.string (A.dec (A.tak n (A.drp off c))))) h)
    | .row s => .need (A.le (A.add off n) (A.bsz s)) (.ret (.lit (.string (A.bex s off (A.add off n)))) h)
    | _ => .stuck else .stuck
  | .nbuf => .ret (.lit (.string ByteArray.empty)) h
  | _ => .stuck
def strishE (x : EV) (h : EH) : SR :=
  match x with
  | .sl es id off n cap => match getH h id with
    | .blk _ => .need (A.bnot (A.isz n)) (.ret (.sl es id off n cap) h)
    | _ => .stuck
  | _ => .stuck
def mkSliceE (es bytes : Nat) (z : List EV) (l c : EV) (h : EH) : SR :=
  match l, c with
  | .lit (.int _ n), .lit (.int _ m) =>
    .need (A.mks bytes n m) (.ret (.sl es (sizeH h) 0 (A.tn n) (some (A.tn m))) (pushH h (.blk (A.rep z (A.tn m)))))
  | _, _ => .stuck
def sliceE (es : Nat) (x : EV) (lo hi mx : Option Int) (h : EH) : SR :=
  match x with
  | .isl n cap c =>
    match mx with
    | none => .need (A.slb (orI lo 0) (orI hi (A.ofn n)) n)
        (.ret (.isl (A.sub (A.tn (orI hi (A.ofn n))) (A.tn (orI lo 0))) (capSub A cap (A.tn (orI lo 0))) (A.drp (A.mul (A.tn (orI lo 0)) es) c)) h)
    | some k => .need (A.slb (orI lo 0) (orI hi (A.ofn n)) (A.tn k)) (.need (A.inb k (A.add n 1)) (.br (A.isz n) (.isl 0 none c) h
        (.isl (A.sub (A.tn (orI hi (A.ofn n))) (A.tn (orI lo 0))) (some (A.sub (A.tn k) (A.tn (orI lo 0)))) (A.drp (A.mul (A.tn (orI lo 0)) es) c)) h))
  | .sl es' id off n cap =>
    if es' = es then
    match mx with
    | none => .need (A.slb (orI lo 0) (orI hi (A.ofn n)) n)
        (.ret (.sl es id (A.add off (A.mul (A.tn (orI lo 0)) es)) (A.sub (A.tn (orI hi (A.ofn n))) (A.tn (orI lo 0))) (capSub A cap (A.tn (orI lo 0)))) h)
    | some k => .need (A.slb (orI lo 0) (orI hi (A.ofn n)) (A.tn k)) (.need (A.inb k (A.add n 1))
        (.ret (.sl es id (A.add off (A.mul (A.tn (orI lo 0)) es)) (A.sub (A.tn (orI hi (A.ofn n))) (A.tn (orI lo 0))) (some (A.sub (A.tn k) (A.tn (orI lo 0))))) h))
    else .stuck
  | .lit (.slice none 0 0) =>
    .need (A.slb (orI lo 0) (orI hi 0) 0) (.need (A.inb (orI mx 0) 1) (.ret (.lit (.slice none 0 0)) h))
  | _ => .stuck
def sliceStrE (x : EV) (lo hi : Option Int) (h : EH) : SR :=
  match x with
  | .lit (.string s) =>
    .need (A.slb (orI lo 0) (orI hi (A.ofn (A.bsz s))) (A.bsz s))
      (.ret (.lit (.string (A.bex s (A.tn (orI lo 0)) (A.tn (orI hi (A.ofn (A.bsz s))))))) h)
  | _ => .stuck
def s2aE (n : Nat) (x : EV) (h : EH) : SR :=
  match x with
  | .isl m _ c => .need (A.le n m) (.ret (.iptr c 0) h)
  | .sl _ id off m _ => .need (A.le n m) (.ret (.eptr id off) h)
  | _ => .stuck
def fieldAddrE (o : Nat) (x : EV) (h : EH) : SR :=
  match x with
  | .ptr id off => .ret (.ptr id (off + o)) h
  | .eptr id off => .ret (.eptr id (A.add off o)) h
  | .iptr c off => .ret (.iptr c (A.add off o)) h
  | _ => .stuck
def fieldE (agg : Bool) (o n : Nat) (x : EV) (h : EH) : SR :=
  match x with
  | .agg c => match rd c o n with
    | some cs => match mkV agg cs with
      | some v => .ret v h
      | none => .stuck
    | none => .stuck
  | _ => .stuck
def indexAddrE (es : Nat) (x i : EV) (h : EH) : SR :=
  match i with
  | .lit (.int _ n) => match x with
    | .isl len _ c => .need (A.inb n len) (.ret (.iptr c (A.idx 0 n es)) h)
    | .sl es' id off len _ => if es' = es then .need (A.inb n len) (.ret (.eptr id (A.idx off n es)) h) else .stuck
    | _ => .stuck
  | _ => .stuck
def indexAddrArrE (es len : Nat) (x i : EV) (h : EH) : SR :=
  match i with
  | .lit (.int _ n) => match x with
    | .ptr id off => .need (A.inb n len) (.ret (.eptr id (A.idx off n es)) h)
    | .eptr id off => .need (A.inb n len) (.ret (.eptr id (A.idx off n es)) h)
    | .iptr c off => .need (A.inb n len) (.ret (.iptr c (A.idx off n es)) h)
    | _ => .stuck
  | _ => .stuck
def indexArrE (agg : Bool) (es len : Nat) (x i : EV) (h : EH) : SR :=
  match i, x with
  | .lit (.int _ n), .agg c => .need (A.inb n len) (.look c (A.idx 0 n es) es agg h)
  | _, _ => .stuck
def indexStrE (x i : EV) (h : EH) : SR :=
  match i, x with
  | .lit (.int _ n), .lit (.string s) => .need (A.inb n (A.bsz s)) (.ret (.lit (.int .u8 (A.bat s (A.tn n)))) h)
  | _, _ => .stuck
def zvE (z : List Value) (isA : Bool) : EV :=
  if isA then .agg (litL z) else match z with | [v] => .lit v | _ => undefE
def lookupE (ks : Nat) (z : List Value) (isA ok : Bool) (x k : EV) (h : EH) : SR :=
  match x with
  | .mp id => match getH h id with
    | .emap es => .need (A.keyed ks es k) (.opt (A.find es k) ok (zvE z isA) h)
    | _ => .stuck
  | .lit (.map none) => .need (A.keyed ks [] k) (.ret (if ok then .tup [zvE z isA, .lit (.bool false)] else zvE z isA) h)
  | _ => .stuck
def mapSetE (ks : Nat) (x k v : EV) (h : EH) : SR :=
  match x with
  | .mp id => match getH h id with
    | .emap es => .need (A.keyed ks es k) (.ret undefE (setH h id (.emap (A.mset es k v))))
    | _ => .stuck
  | _ => .stuck
def extractE (x : EV) (i : Nat) (h : EH) : SR :=
  match x with
  | .tup c => match nthE c i with
    | some v => .ret v h
    | none => .stuck
  | _ => .stuck
def callvE (x : EV) (args : List EV) : SR :=
  match x with
  | .fn (.func f) a b => if Nat.beq f roundF then .stuck else .call f (appL a (appL args b))
  | .yl id => .call roundF (.yl id :: args)
  | _ => .stuck
def invokeE (x : EV) (cands : List (TypeId × FuncId)) (args : List EV) : SR :=
  match x with
  | .iface ty v => match candOf ty cands with
    | some f => .call f (v :: args)
    | none => .stuck
  | _ => .stuck
/-- k: 0: of a string, 1: of a slice, 2: of a map -/
def lenE (k : Nat) (x : EV) (h : EH) : SR :=
  match k with
  | 0 => match x with
    | .lit (.string s) => .ret (.lit (.int .i64 (A.ofn (A.bsz s)))) h
    | _ => .stuck
  | 1 => match x with
    | .lit (.slice none 0 0) => .ret (.lit (.int .i64 0)) h
    | .nbuf => .ret (.lit (.int .i64 0)) h
    | .sl _ _ _ n _ => .ret (.lit (.int .i64 (A.ofn n))) h
    | .isl n _ _ => .ret (.lit (.int .i64 (A.ofn n))) h
    | _ => .stuck
  | _ => match x with
    | .lit (.map none) => .ret (.lit (.int .i64 0)) h
    | .mp id => match getH h id with
      | .emap es => .ret (.lit (.int .i64 (A.ofn (A.mlen es)))) h
      | _ => .stuck
    | _ => .stuck
def copyE (es : Nat) (x y : EV) (h : EH) : SR :=
  match srcE A es h y with
  | some (n, ys) => match x with
    | .sl es' id off len _ => if es' = es then match getH h id with
      | .blk c => .need (A.le (A.add off (A.mul len es)) (A.len c)) (.need (A.le (A.mul n es) (A.len ys))
          (.ret (.lit (.int .i64 (A.ofn (A.nmin n len)))) (setH h id (.blk (A.setl c off (A.tak (A.mul (A.nmin n len) es) ys))))))
      | _ => .stuck else .stuck
    | .lit (.slice none 0 0) => .ret (.lit (.int .i64 0)) h
    | _ => .stuck
  | none => .stuck
def minmaxE (mx : Bool) (x : EV) (l : List EV) (h : EH) : SR :=
  match x with
  | .lit (.int k n) => match foldMM A mx k n l with
    | some m => .ret (.lit (.int k m)) h
    | none => .stuck
  | _ => .stuck
/-- whose memory a pointer points into -/
def idE : EV → Option Nat
  | .ptr i _ => some i
  | .eptr i _ => some i
  | _ => none
/-- two pointers into different memory -/
def apartE (x y : EV) (h : EH) : SR :=
  match idE x, idE y with
  | some i, some j => if Nat.beq i j then .stuck else .ret undefE h
  | _, _ => .stuck
def againE (w : EV) (agg : Bool) (n : Nat) (x : EV) (h : EH) : SR :=
  match x with
  | .ptr id off => match getH h id with
    | .blk c => match rd c off n with
      | some cs => match mkV agg cs with
        | some v => .same v w h
        | none => .stuck
      | none => .stuck
    | _ => .stuck
  | .eptr id off => match getH h id with
    | .blk c => .lookS c off n agg w h
    | _ => .stuck
  | .iptr _ _ => .ret undefE h
  | _ => .stuck
/-- what gives up -/
def panicE (x : EV) : SR :=
  match x with
  | .iface ty v => .call roundF [.top, .iface ty v]
  | _ => .stuck
/-- a value of an interface's type, asserted to be of a type that is none -/
def tassertE (ty : TypeId) (z : List Value) (isA ok : Bool) (x : EV) (h : EH) : SR :=
  match x with
  | .iface u v => if Nat.beq u ty then .ret (if ok then .tup [v, .lit (.bool true)] else v) h
      else if ok then .ret (.tup [zvE z isA, .lit (.bool false)]) h else .stuck
  | .lit .nilIface => if ok then .ret (.tup [zvE z isA, .lit (.bool false)]) h else .stuck
  | _ => .stuck
def rngSE (x : EV) (h : EH) : SR :=
  match x with
  | .lit (.string s) => .ret (.ptr (sizeH h) 0) (pushH h (.itr s 0))
  | _ => .stuck
def nxtSE (x : EV) (h : EH) : SR :=
  match x with
  | .ptr id 0 => match getH h id with
    | .itr s pos => .br (A.le (A.bsz s) pos) (.tup [.lit (.bool false)]) h
        (.tup [.lit (.bool true), .lit (.int .i64 (A.ofn pos)), .lit (.int .i32 (A.rn s pos))]) (setH h id (.itr s (A.add pos (A.rw s pos))))
    | _ => .stuck
  | _ => .stuck
/-- a builder's first cells -/
def nbZ (id e n : Nat) : List EV → List EV
  | _ :: _ :: l => .nb id e n :: .nbuf :: l
  | l => l
/-- what a slice covers is set to zero -/
def clrE (es : Nat) (z : List EV) (x : EV) (h : EH) : SR :=
  match x with
  | .sl es' id off len _ => if es' = es then match getH h id with
    | .blk c => .need (A.le (A.add off (A.mul len es)) (A.len c)) (.ret undefE (setH h id (.blk (A.setl c off (A.rep z len)))))
    | _ => .stuck else .stuck
  | .lit (.slice none 0 0) => .ret undefE h
  | _ => .stuck
/-- a builder's value, put into a block whose type is known -/
def boxBE (e n : Nat) (x : EV) (h : EH) : SR :=
  match x with
  | .agg (.lit (.pointer none) :: .lit (.slice none 0 0) :: c) => if allOne c && Nat.beq (lenL c + 2) n then .ret (.ptr (sizeH h) 0) (pushH h (.blk (.nb (sizeH h) e n :: .nbuf :: c))) else .stuck
  | _ => .stuck
def toUE (x : EV) (h : EH) : SR :=
  match x with
  | .ptr id off => match getH h id with
    | .blk c => if Nat.blt off (lenL c) then .ret (.ptr id off) h else .stuck
    | _ => .stuck
  | _ => .stuck
def hasNb (id e n : Nat) : List EV → Bool
  | [] => false
  | .nb i a b :: l => (Nat.beq i id && Nat.beq a e && Nat.beq b n) || hasNb id e n l
  | _ :: l => hasNb id e n l
def inOk (id off : Nat) (c : List EV) : List (Nat × Nat × Nat) → Bool
  | [] => false
  | (e, n, o) :: l => (Nat.beq o off && hasNb id e n c) || inOk id off c l
def fromUE (okl : List (Nat × Nat × Nat)) (x : EV) (h : EH) : SR :=
  match x with
  | .ptr id off => match getH h id with
    | .blk c => if inOk id off c okl then .ret (.ptr id off) h else .stuck
    | _ => .stuck
  | _ => .stuck
def sdataE (x : EV) (h : EH) : SR :=
  match x with
  | .nbuf => .ret (.lit (.pointer none)) h
  | .lit (.slice none 0 0) => .ret (.lit (.pointer none)) h
  | .sl 1 id off n _ => match getH h id with
    | .row s => .need (A.bnot (A.isz n)) (.ret (.eptr id off) h)
    | _ => .stuck
  | _ => .stuck
def ustrE (x l : EV) (h : EH) : SR :=
  match x, l with
  | .lit (.pointer none), .lit (.int _ n) => .need (A.isz (A.tn n)) (.need (A.nn n) (.ret (.lit (.string ByteArray.empty)) h))
  | .eptr id off, .lit (.int _ n) => match getH h id with
    | .row s => .need (A.nn n) (.need (A.room (A.tn n) 1) (.need (A.le (A.add off (A.tn n)) (A.bsz s)) (.ret (.lit (.string (A.bex s off (A.add off (A.tn n))))) (setH h id .dead))))
    | _ => .stuck
  | _, _ => .stuck
/-- One instruction. -/
def stepI (t : List EV) (h : EH) : EI → SR
  | .mov x => .ret (evalO G t x) h
  | .pick c a b => pickE (evalO G t c) (evalO G t a) (evalO G t b) h
  | .alloc z => boxE (.agg (litL z)) h
  | .box x => boxE (evalO G t x) h
  | .build z ps => match fillE G t (litL z) ps with
    | some c => .ret (.agg c) h
    | none => .stuck
  | .buildSlice es n z ps => match fillE G t (litL z) ps with
    | some c => if allOne c then .ret (.sl es (sizeH h) 0 n (some n)) (pushH h (.blk c)) else .stuck
    | none => .stuck
  | .load agg n x => loadE agg n (evalO G t x) h
  | .store n x v => storeE A n (evalO G t x) (evalO G t v) h
  | .nilCheck x => nilCheckE (evalO G t x) h
  | .bin op x y td => binE A op (evalO G t x) (evalO G t y) td h
  | .un op x => unE A op (evalO G t x) h
  | .conv k x => convE A k (evalO G t x) h
  | .cstr x => cstrE (evalO G t x) h
  | .s2b x => s2bE A (evalO G t x) h
  | .b2s x => b2sE A (evalO G t x) h
  | .strish x => strishE A (evalO G t x) h
  | .mkIface ty x => .ret (.iface ty (evalO G t x)) h
  | .mkFunc f a b => .ret (.fn f (evalL G t a) (evalL G t b)) h
  | .mkMap => .ret (.mp (sizeH h)) (pushH h (.emap []))
  | .mkSlice es bytes z l c => mkSliceE A es bytes (litL z) (evalO G t l) (evalO G t c) h
  | .slice es x lo hi mx =>
    match boundE G t lo, boundE G t hi, boundE G t mx with
    | some l, some hh, some m => sliceE A es (evalO G t x) l hh m h
    | _, _, _ => .stuck
  | .sliceStr x lo hi =>
    match boundE G t lo, boundE G t hi with
    | some l, some hh => sliceStrE A (evalO G t x) l hh h
    | _, _ => .stuck
  | .s2a n x => s2aE A n (evalO G t x) h
  | .fieldAddr o x => fieldAddrE A o (evalO G t x) h
  | .field agg o n x => fieldE agg o n (evalO G t x) h
  | .indexAddr es x i => indexAddrE A es (evalO G t x) (evalO G t i) h
  | .indexAddrArr es len x i => indexAddrArrE A es len (evalO G t x) (evalO G t i) h
  | .indexArr agg es len x i => indexArrE A agg es len (evalO G t x) (evalO G t i) h
  | .indexStr x i => indexStrE A (evalO G t x) (evalO G t i) h
  | .lookup ks z isA ok x k => lookupE A ks z isA ok (evalO G t x) (evalO G t k) h
  | .mapSet ks x k v => mapSetE A ks (evalO G t x) (evalO G t k) (evalO G t v) h
  | .extract x i => extractE (evalO G t x) i h
  | .call f args => .call f (evalL G t args)
  | .callv x args => callvE (evalO G t x) (evalL G t args)
  | .invoke x _ cands args => invokeE (evalO G t x) cands (evalL G t args)
  | .append es bytes x y => appendE A es bytes (evalO G t x) (evalO G t y) h
  | .len k x => lenE A k (evalO G t x) h
  | .copy es x y => copyE A es (evalO G t x) (evalO G t y) h
  | .minmax mx x l => minmaxE A mx (evalO G t x) (evalL G t l) h
  | .again d agg n x => againE (getT t d) agg n (evalO G t x) h
  | .apart x y => apartE (evalO G t x) (evalO G t y) h
  | .panic x => panicE (evalO G t x)
  | .tassert ty z isA ok x => tassertE ty z isA ok (evalO G t x) h
  | .rngS x => rngSE (evalO G t x) h
  | .nxtS x => nxtSE A (evalO G t x) h
  | .allocB e n z => .ret (.ptr (sizeH h) 0) (pushH h (.blk (nbZ (sizeH h) e n (litL z))))
  | .toU x => toUE (evalO G t x) h
  | .fromU okl x => fromUE okl (evalO G t x) h
  | .sdata x => sdataE A (evalO G t x) h
  | .ustr x l => ustrE A (evalO G t x) (evalO G t l) h
  | .same x => .ret (evalO G t x) h
  | .appendB x y => appendBE A (evalO G t x) (evalO G t y) h
  | .peq op el x y => peqE A op el (evalO G t x) (evalO G t y) h
  | .boxB e n x => boxBE e n (evalO G t x) h
  | .ieq op il x y => ieqE A op il (evalO G t x) (evalO G t y) h
  | .clr es z x => clrE A es (litL z) (evalO G t x) h
  | .bad => .stuck
/-- What an instruction's outcome makes of a run. -/
def outOf (dst : Option Nat) (k : List KI) (t : List EV) (go : EV → EH → Out) : SR → Out
  | .stuck => .stuck
  | .ret v h => go v h
  | .need b r => .need b (outOf dst k t go r)
  | .look c off n agg h => .look c off n agg dst k ⟨t, h⟩
  | .br b v1 h1 v2 h2 => .br b k ⟨putT t dst v1, h1⟩ k ⟨putT t dst v2, h2⟩
  | .opt o ok z h => .opt o ok z dst k ⟨t, h⟩
  | .call f args => .stuck
  | .same v w h => .same v w (go undefE h)
  | .lookS c off n agg w h => .lookS c off n agg w (go undefE h)
def unwindK (id : Nat) : List KI → Option (List KI)
  | [] => none
  | .blk i :: k => if i == id then some k else unwindK id k
  | _ :: k => unwindK id k
def litB (t : List EV) (x : Operand) (b : Bool) : List EV :=
  match x with
  | .tmp i => setT t i (.lit (.bool b))
  | _ => t
/-- A run up to the next event. -/
def run : Nat → List KI → St → Out
  | 0, k, s => .pause k s
  | _ + 1, [], s => .done s
  | n + 1, .c ec :: k, s =>
    match ec with
    | .skip => run n k s
    | .ops l => run n (.ops l :: k) s
    | .seq a b => run n (.c a :: .c b :: k) s
    | .cond x a b =>
      match evalO G s.t x with
      | .lit (.bool true) => run n (.c a :: k) s
      | .lit (.bool false) => run n (.c b :: k) s
      | .sb v => .br v (.c a :: k) ⟨litB s.t x true, s.h⟩ (.c b :: k) ⟨litB s.t x false, s.h⟩
      | _ => .stuck
    | .block id c => run n (.c c :: .blk id :: k) s
    | .loop c => .loop c k s
    | .exit id => match unwindK id k with
      | some k' => run n k' s
      | none => .stuck
    | .ret => .done s
    | .rf .. => .stuck
    | .any _ => .stuck
  | n + 1, .ops [] :: k, s => run n k s
  | n + 1, .ops (o :: l) :: k, s =>
    let go (_ : Unit) : Out := match stepI A G s.t s.h o.i with
      | .call f args => .call f args o.dst (.ops l :: k) s
      | r => outOf o.dst (.ops l :: k) s.t (fun v h => run n (.ops l :: k) ⟨putT s.t o.dst v, h⟩) r
    match o.guard with
    | none => go ()
    | some (g, want) => match getT s.t g with
      | .lit (.bool b) => if b == want then go () else run n (.ops l :: k) ⟨putT s.t o.dst undefE, s.h⟩
      | .lit (.tuple _) => run n (.ops l :: k) ⟨putT s.t o.dst undefE, s.h⟩
      | .sb b => .br b (.ops (o :: l) :: k) ⟨setT s.t g (.lit (.bool true)), s.h⟩ (.ops (o :: l) :: k) ⟨setT s.t g (.lit (.bool false)), s.h⟩
      | _ => .stuck
  | n + 1, .blk _ :: k, s => run n k s
  | _ + 1, .mark R :: _, s => .back R s
  | _ + 1, .lp c :: k, s => .again c k s
end Go.Proofs.YtpgeonghlabnhaaGreatDoor.Em
