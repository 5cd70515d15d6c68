/- Em4: the arithmetic that a run leaves open, as it is; what an instruction's outcome asks; evaluation of operands stands for the model's. No conditions beyond those written. -/
import Derived.Test.YtpgeonghlabnhaaGreatDoorEm3
import Derived.Laws.Append
import Derived.Laws.Cells
import Derived.Laws.CopyRow
import Derived.Laws.Entries
set_option linter.unusedVariables false
namespace Go.Proofs.YtpgeonghlabnhaaGreatDoor.Em
open Go
def byteE : EV → Bool
  | .lit (.int .u8 n) => decide (0 ≤ n ∧ n < 256)
  | _ => false
def numE : EV → Int
  | .lit (.int _ n) => n
  | _ => 0
def numsE : List EV → Option (List (IntKind × Int))
  | [] => some []
  | .lit (.int k n) :: l => match numsE l with | some r => some ((k, n) :: r) | none => none
  | _ :: _ => none
/-- a key that can be held by its bits -/
inductive KeyV where
  | num (k : IntKind) (n : Int)
  | str (s : List UInt8)
  | arr (l : List (IntKind × Int))
  deriving DecidableEq
def keyV : EV → Option KeyV
  | .lit (.int k n) => some (.num k n)
  | .lit (.string s) => some (.str s.data.toList)
  | .agg c => match numsE c with | some l => some (.arr l) | none => none
  | _ => none
def KeyV.like : KeyV → KeyV → Bool
  | .num k _, .num k' _ => k == k'
  | .str _, .str _ => true
  | .arr l, .arr m => l.map (·.1) == m.map (·.1)
  | _, _ => false
/-- what a key's shape is called in an instruction -/
def KeyV.shp : KeyV → Nat
  | .num _ _ => 0
  | .str _ => 1
  | .arr l => l.length + 2
def shpIs (ks : Nat) (k : EV) : Bool :=
  match keyV k with
  | some a => a.shp == ks
  | none => false
def keyEq (x y : EV) : Bool :=
  match keyV x, keyV y with
  | some a, some b => a == b
  | _, _ => false
def keyLike (x y : EV) : Bool :=
  match keyV x, keyV y with
  | some a, some b => a.like b
  | _, _ => false
def msetL : List (EV × EV) → EV → EV → List (EV × EV)
  | [], k, v => [(k, v)]
  | (a, b) :: l, k, v => if keyEq k a then (k, v) :: l else (a, b) :: msetL l k v
def stdA : Ar where
  ib op k a b := match op with
    | .add => k.wrap (a + b)
    | .sub => k.wrap (a - b)
    | .mul => k.wrap (a * b)
    | .quo => k.wrap (a.tdiv b)
    | .rem => a.tmod b
    | .and => k.wrap (BitVec.ofInt k.bits a &&& BitVec.ofInt k.bits b).toNat
    | .or => k.wrap (BitVec.ofInt k.bits a ||| BitVec.ofInt k.bits b).toNat
    | .xor => k.wrap (BitVec.ofInt k.bits a ^^^ BitVec.ofInt k.bits b).toNat
    | .andNot => k.wrap (BitVec.ofInt k.bits a &&& ~~~BitVec.ofInt k.bits b).toNat
    | _ => 0
  ic op a b := match op with
    | .eql => a == b
    | .neq => a != b
    | .lss => decide (a < b)
    | .leq => decide (a ≤ b)
    | .gtr => decide (a > b)
    | .geq => decide (a ≥ b)
    | _ => false
  sh op k a b := match op with
    | .shl => k.wrap (a * 2 ^ (min b.toNat k.bits))
    | .shr => a.fdiv (2 ^ (min b.toNat k.bits))
    | _ => 0
  wr k n := k.wrap n
  xr k n := k.wrap (BitVec.ofInt k.bits (if k.signed then -1 else k.max) ^^^ BitVec.ofInt k.bits n).toNat
  ss op a b := match op with
    | .eql => a.toList == b.toList
    | .neq => !(a.toList == b.toList)
    | .lss => Op.bytesLess a.toList b.toList
    | .leq => Op.bytesLess a.toList b.toList || a.toList == b.toList
    | .gtr => !(Op.bytesLess a.toList b.toList || a.toList == b.toList)
    | .geq => !Op.bytesLess a.toList b.toList
    | _ => false
  cat a b := a ++ b
  bsz s := s.size
  bat s i := ((s.data.toList[i]?).map fun b => (b.toNat : Int)).getD 0
  bex s a b := s.extract a b
  enc s := s.data.toList.map fun b => .lit (.int .u8 b.toNat)
  dec c := ⟨(c.map fun x => UInt8.ofNat (numE x).toNat).toArray⟩
  tn i := i.toNat
  ofn n := n
  add a b := a + b
  sub a b := a - b
  mul a b := a * b
  idx o i es := o + i.toNat * es
  nmin a b := Nat.min a b
  imin a b := if b < a then b else a
  imax a b := if b > a then b else a
  nn i := decide (0 ≤ i)
  ne0 i := decide (i ≠ 0)
  isz n := n == 0
  le a b := decide (a ≤ b)
  inb i n := decide (0 ≤ i ∧ i < n)
  slb lo hi n := decide (0 ≤ lo ∧ lo ≤ hi ∧ hi ≤ n)
  room n bytes := decide (n * bytes ≤ 140737488355328 ∧ n ≤ 9223372036854775807)
  mks bytes n m := decide (0 ≤ n ∧ n ≤ m ∧ m * bytes ≤ 281474976710656 ∧ m ≤ 9223372036854775807)
  bnot b := !b
  beq a b := a == b
  drp n l := l.drop n
  tak n l := l.take n
  app l m := l ++ m
  setl l o v := l.take o ++ v ++ l.drop (o + v.length)
  rep z n := (List.replicate n z).flatten
  len l := l.length
  byt n c := decide (n ≤ c.length) && (c.take n).all byteE
  keyed ks es k := shpIs ks k && es.all fun p => keyLike k p.1
  find es k := (es.find? fun p => keyEq k p.1).map (·.2)
  mset es k v := msetL es k v
  mlen es := es.length
  rn s p := (Utf8.decode s p).1
  rw s p := (Utf8.decode s p).2
/-- What an instruction's outcome asks for. -/
def SROK (post : EV → EH → Prop) (pc : FuncId → List EV → Prop) : SR → Prop
  | .stuck => False
  | .ret v h => post v h
  | .need b r => b = true ∧ SROK post pc r
  | .look c off n agg h => ∃ cs v, cs.length = n ∧ (c.drop off).take n = cs ∧ mkV agg cs = some v ∧ post v h
  | .br b v1 h1 v2 h2 => (b = true → post v1 h1) ∧ (b = false → post v2 h2)
  | .opt o ok z h => (o = none → post (if ok then .tup [z, .lit (.bool false)] else z) h) ∧ ∀ x, o = some x → post (if ok then .tup [x, .lit (.bool true)] else x) h
  | .call f args => pc f args
  | .same v w h => v = w ∧ post undefE h
  | .lookS c off n agg w h => (∃ cs, cs.length = n ∧ (c.drop off).take n = cs ∧ mkV agg cs = some w) ∧ post undefE h
/-- An operation's run stands for an outcome. -/
def Res (I : Imm) (w : World) (ρ : Ren) (post : EV → EH → Prop) (pc : FuncId → List EV → Prop) (x : Result Next) : Prop :=
  (∃ v v' h' w' ρ', (x = .ok (.value v') w' ∨ (x = .ok .skip w' ∧ v' = undef)) ∧ post v h' ∧ Keep I w w' ∧ HSim I w' (ρ ++ ρ') h' ∧ Rep w' I (ρ ++ ρ') v v') ∨
  (∃ f args args', x = .ok (.enter f args') w ∧ f ≠ roundF ∧ pc f args ∧ RepL w I ρ args args'.toList) ∨
  (∃ id as u us, Rep w I ρ (.yl id) u ∧ RepL w I ρ as us.toList ∧ pc roundF (.yl id :: as) ∧ ∀ l r, u = .func (.yield l) #[] #[] → w.heap[l]? = some (.loop r) → us.size = r.params.size →
    x = .ok (.round l r.fn ((r.params.zip us).foldl (fun tmps (t, a) => tmps.setIfInBounds t a) r.tmps) r.assign r.body) w) ∨
  (∃ v v', x = .halt (.panic v') w ∧ pc roundF [.top, v] ∧ Rep w I ρ v v')
section
variable {I : Imm} {w : World} {ρ : Ren} {h : EH} {post : EV → EH → Prop} {pc : FuncId → List EV → Prop} {P : Program}
/-- An outcome that leaves the world as it is. -/
theorem Res.pure (hs : HSim I w ρ h) {x : Result Next} {v : EV} {v' : Value} (hx : x = .ok (.value v') w) (hp : post v h) (hr : Rep w I ρ v v') :
    Res I w ρ post pc x :=
  .inl ⟨v, v', h, w, [], .inl hx, hp, .refl I w, by simpa using hs, by simpa using hr⟩
/-- An outcome that makes a block. -/
theorem Res.made (hs : HSim I w ρ h) (hI : ∀ b, I b → b < w.heap.size) {x : Result Next} {v : EV} {v' : Value} {o : Obj} {eo : EO}
    (hx : x = .ok (.value v') (w.alloc o)) (hp : post v (pushH h eo))
    (hnew : OS I (w.alloc o) (ρ ++ [(w.heap.size, 0)]) (sizeH h) eo) (hr : Rep (w.alloc o) I (ρ ++ [(w.heap.size, 0)]) v v') :
    Res I w ρ post pc x :=
  .inl ⟨v, v', _, _, _, .inl hx, hp, .alloc w o hI, hs.alloc hI o eo hnew, hr⟩
theorem litL_rep : ∀ (l : List Value), RepL w I ρ (litL l) l
  | [] => trivial
  | v :: l => ⟨.lit ρ v, litL_rep l⟩
theorem litL_length (l : List Value) : (litL l).length = l.length := by
  induction l with
  | nil => rfl
  | cons v l ih => simp [litL, ih]
theorem agg_of_list {c : List EV} {vs : Array Value} (hr : RepL w I ρ c vs.toList) : Rep w I ρ (.agg c) (.agg vs) :=
  .agg ρ c vs (by simpa using hr.length) fun j e v he hv => hr.at j e v he (by simpa using hv)
theorem tup_of_list {c : List EV} {vs : Array Value} (hr : RepL w I ρ c vs.toList) : Rep w I ρ (.tup c) (.tuple vs) :=
  .tup ρ c vs (by simpa using hr.length) fun j e v he hv => hr.at j e v he (by simpa using hv)
theorem ofV_rep (v : Value) : Rep w I ρ (ofV v) v := by
  cases v with
  | agg cs => exact agg_of_list (litL_rep cs.toList)
  | _ => exact .lit ρ _
/-- what the program's variables hold, in memory that nobody writes -/
def Glob (w : World) (I : Imm) (G : List (List EV)) : Prop :=
  ∀ (g : Nat) (c : List EV), G[g]? = some c → ∀ ρ, Rep w I ρ (.iptr c 0) (.pointer (some ⟨g, 0, none⟩))
theorem getT_rep : ∀ {t : List EV} {vs : List Value}, RepL w I ρ t vs → ∀ i, Rep w I ρ (getT t i) (vs.getD i undef)
  | [], [], _, _ => .lit ρ _
  | x :: t, v :: vs, h, 0 => h.1
  | x :: t, v :: vs, h, i + 1 => by have := getT_rep h.2 i; simpa [getT] using this
theorem evalO_rep {G : List (List EV)} {t : List EV} {a : Act} (hg : Glob w I G) (ht : RepL w I ρ t a.tmps.toList) (x : Operand) :
    Rep w I ρ (evalO G t x) (a.eval x) := by
  cases x with
  | tmp i =>
    have := getT_rep ht i
    simpa [evalO, Act.eval, Array.getD_eq_getD_getElem?, List.getD_eq_getElem?_getD] using this
  | const v => exact ofV_rep v
  | global g =>
    simp only [evalO, Act.eval]
    cases hc : G[g]? with
    | some c => exact hg g c hc ρ
    | none => exact .lit ρ _
  | func f => exact .fn ρ _ [] [] #[] #[] rfl rfl (fun j e v hj => by simp at hj) (fun j e v hj => by simp at hj)
theorem evalL_rep {G : List (List EV)} {t : List EV} {a : Act} (hg : Glob w I G) (ht : RepL w I ρ t a.tmps.toList) :
    ∀ (l : List Operand), RepL w I ρ (evalL G t l) (l.map a.eval)
  | [] => trivial
  | x :: l => ⟨evalO_rep hg ht x, evalL_rep hg ht l⟩
theorem lenL_eq : ∀ l : List EV, lenL l = l.length
  | [] => rfl
  | _ :: l => by simp [lenL, lenL_eq l]
theorem cellsE_rep {e : EV} {v : Value} (hr : Rep w I ρ e v) (hnt : e ≠ .top) : RepL w I ρ (cellsE e) v.cells.toList := by
  have hr0 := hr
  cases hr with
  | agg _ c vs hl hc => exact RepL.mk (by simpa [Value.cells, cellsE] using hl) fun j x u hx hu => hc j x u hx (by simpa [Value.cells] using hu)
  | lit _ v => cases v with
    | agg u => exact litL_rep u.toList
    | _ => exact ⟨hr0, trivial⟩
  | top _ v => exact absurd rfl hnt
  | _ => exact ⟨hr0, trivial⟩
/-- What is seen to be one cell is one. -/
theorem one_rep {e : EV} {v : Value} (hr : Rep w I ρ e v) (ho : oneE e = true) : v.oneCell' = true := by
  cases hr with
  | lit _ v => cases v <;> simp_all [oneE, Value.oneCell']
  | agg => simp [oneE] at ho
  | tup => simp [oneE] at ho
  | top => simp [oneE] at ho
  | _ => rfl
theorem allOne_rep : ∀ {c : List EV} {vs : List Value}, RepL w I ρ c vs → allOne c = true → ∀ v ∈ vs, v.oneCell' = true
  | [], [], _, _, v, hv => by simp at hv
  | x :: c, u :: vs, h, ho, v, hv => by
    have ho' : oneE x = true ∧ allOne c = true := by
      unfold allOne at ho
      split at ho
      · exact ⟨by assumption, ho⟩
      · cases ho
    rcases List.mem_cons.1 hv with rfl | hv
    · exact one_rep h.1 ho'.1
    · exact allOne_rep h.2 ho'.2 v hv
theorem cellsE_rep' {e : EV} {v : Value} (hr : Rep w I ρ e v) (ho : allOne (cellsE e) = true) : RepL w I ρ (cellsE e) v.cells.toList :=
  cellsE_rep hr fun h => by subst h; simp [cellsE, allOne, oneE] at ho
end
end Go.Proofs.YtpgeonghlabnhaaGreatDoor.Em
