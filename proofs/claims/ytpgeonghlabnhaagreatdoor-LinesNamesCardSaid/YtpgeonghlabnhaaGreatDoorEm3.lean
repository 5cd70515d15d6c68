/- Em3: when a value of the abstract machine stands for a value of the model, and an abstract heap for the model's. Definitions and small lemmas; no conditions beyond those written. -/
import Derived.Test.YtpgeonghlabnhaaGreatDoorEm2
import Derived.Laws.Sem
import Derived.Laws.World
set_option linter.unusedVariables false
namespace Go.Proofs.YtpgeonghlabnhaaGreatDoor.Em
open Go
abbrev Ren := List (Nat × Nat)
/-- Blocks: k: those that are kept as they are; j: those among them in which what is handed in lies. -/
structure Imm where
  k : Nat → Prop
  j : Nat → Prop
  sub : ∀ b, j b → k b
  /-- the program: by it the code of loops over functions is known -/
  P : Program
  /-- the deferred calls that stand already where a function's code is entered -/
  D : List Deferred
  /-- are the places known where a call gives up? -/
  T : Bool
instance : CoeFun Imm fun _ => Nat → Prop := ⟨Imm.k⟩
def capOk (cap : Option Nat) (n k : Nat) : Prop := n ≤ k ∧ ∀ m, cap = some m → k = m
def Fits (w : World) (b m : Nat) : Prop := ∃ cs e fz, w.heap[b]? = some (.cells cs e fz) ∧ m ≤ cs.size
/-- An abstract value stands for a value of the model. I: the blocks that nobody writes. -/
inductive Rep (w : World) (I : Imm) : Ren → EV → Value → Prop
  | lit (ρ v) : Rep w I ρ (.lit v) v
  | sb (ρ b) : Rep w I ρ (.sb b) (.bool b)
  | ptr (ρ : Ren) (id off b o) : ρ[id]? = some (b, o) → Rep w I ρ (.ptr id off) (.pointer (some ⟨b, o + off, none⟩))
  | eptr (ρ : Ren) (id off b o) : ρ[id]? = some (b, o) → Rep w I ρ (.eptr id off) (.pointer (some ⟨b, o + off, none⟩))
  | sl (ρ : Ren) (es id off len cap) (a : Addr) (k b o) : ρ[id]? = some (b, o) → capOk cap len k → a.spot = none →
      (k ≠ 0 → a = ⟨b, o + off, none⟩ ∧ Fits w b (o + off + k * es)) → Rep w I ρ (.sl es id off len cap) (.slice (some a) len k)
  | mp (ρ : Ren) (id b o) : ρ[id]? = some (b, o) → Rep w I ρ (.mp id) (.map (some b))
  | iptr (ρ : Ren) (c off b o) (vs : Nat → Value) : I.j b → (∀ (j : Nat) (x : EV), c[j]? = some x → w.cell? ⟨b, o + j, none⟩ = some (vs j) ∧ (vs j).oneCell' = true) →
      (∀ (j : Nat) (x : EV), c[j]? = some x → Rep w I [] x (vs j)) → Rep w I ρ (.iptr c off) (.pointer (some ⟨b, o + off, none⟩))
  | isl (ρ : Ren) (n cap c) (a : Addr) (k) (vs : Nat → Value) : capOk cap n k → (k ≠ 0 → a.spot = none) →
      (k ≠ 0 → I.j a.block ∧ ∀ (j : Nat) (x : EV), c[j]? = some x → w.cell? ⟨a.block, a.off + j, none⟩ = some (vs j) ∧ (vs j).oneCell' = true) →
      (k ≠ 0 → ∀ (j : Nat) (x : EV), c[j]? = some x → Rep w I [] x (vs j)) → Rep w I ρ (.isl n cap c) (.slice (some a) n k)
  | isln (ρ : Ren) (c) : Rep w I ρ (.isl 0 none c) (.slice none 0 0)
  | fn (ρ : Ren) (f) (x y : List EV) (xs ys : Array Value) : x.length = xs.size → y.length = ys.size →
      (∀ (j : Nat) (e : EV) (v : Value), x[j]? = some e → xs[j]? = some v → Rep w I ρ e v) →
      (∀ (j : Nat) (e : EV) (v : Value), y[j]? = some e → ys[j]? = some v → Rep w I ρ e v) → Rep w I ρ (.fn f x y) (.func f xs ys)
  | iface (ρ : Ren) (t e v) : Rep w I ρ e v → Rep w I ρ (.iface t e) (.iface t v)
  | agg (ρ : Ren) (c : List EV) (vs : Array Value) : c.length = vs.size →
      (∀ (j : Nat) (e : EV) (v : Value), c[j]? = some e → vs[j]? = some v → Rep w I ρ e v) → Rep w I ρ (.agg c) (.agg vs)
  | tup (ρ : Ren) (c : List EV) (vs : Array Value) : c.length = vs.size →
      (∀ (j : Nat) (e : EV) (v : Value), c[j]? = some e → vs[j]? = some v → Rep w I ρ e v) → Rep w I ρ (.tup c) (.tuple vs)
  | top (ρ : Ren) (v) : Rep w I ρ .top v
  | yl (ρ : Ren) (id b) : ρ[id]? = some (b, 0) → Rep w I ρ (.yl id) (.func (.yield b) #[] #[])
  | nb (ρ : Ren) (id e n b) : ρ[id]? = some (b, 0) → (∃ cs fz, w.heap[b]? = some (.cells cs e fz) ∧ cs.size = n) → Rep w I ρ (.nb id e n) (.pointer none)
  | nbuf (ρ : Ren) : Rep w I ρ .nbuf (.slice none 0 0)
/-- What a piece of a run keeps: all but own memory. -/
structure Keep (I : Imm) (w w' : World) : Prop where
  os : w'.os = w.os
  tape : w'.tape = w.tape
  output : w'.output = w.output
  size : w.heap.size ≤ w'.heap.size
  same : ∀ b, I b → w'.heap[b]? = w.heap[b]?
  shp : ∀ (b : Nat) (cs : Array Value) (e : TypeId) (fz : Nat × Nat), w.heap[b]? = some (.cells cs e fz) →
    ∃ (cs' : Array Value) (fz' : Nat × Nat), w'.heap[b]? = some (.cells cs' e fz') ∧ cs'.size = cs.size
theorem Keep.refl (I : Imm) (w : World) : Keep I w w :=
  ⟨rfl, rfl, rfl, Nat.le_refl _, fun _ _ => rfl, fun _ cs _ fz h => ⟨cs, fz, h, rfl⟩⟩
theorem Keep.trans {I : Imm} {a b c : World} (h : Keep I a b) (k : Keep I b c) : Keep I a c :=
  ⟨k.os.trans h.os, k.tape.trans h.tape, k.output.trans h.output, Nat.le_trans h.size k.size, fun i hi => (k.same i hi).trans (h.same i hi),
   fun i cs e fz hb => by
    obtain ⟨cs1, fz1, h1, e1⟩ := h.shp i cs e fz hb
    obtain ⟨cs2, fz2, h2, e2⟩ := k.shp i cs1 e fz1 h1
    exact ⟨cs2, fz2, h2, e2.trans e1⟩⟩
theorem Keep.mono {I J : Imm} {a b : World} (h : Keep I a b) (hj : ∀ x, J x → I x) : Keep J a b :=
  ⟨h.os, h.tape, h.output, h.size, fun i hi => h.same i (hj i hi), h.shp⟩
theorem Keep.drew (I : Imm) (w : World) : Keep I w w.drew :=
  ⟨rfl, rfl, rfl, Nat.le_refl _, fun _ _ => rfl, fun _ cs _ fz h => ⟨cs, fz, h, rfl⟩⟩
theorem Keep.cell {I : Imm} {w w' : World} (h : Keep I w w') {b : Nat} (hb : I b) (off : Nat) (s : Option Nat) :
    w'.cell? ⟨b, off, s⟩ = w.cell? ⟨b, off, s⟩ := by
  simp only [World.cell?, h.same b hb]
theorem Keep.fits {I : Imm} {w w' : World} (h : Keep I w w') {b m : Nat} (hf : Fits w b m) : Fits w' b m := by
  obtain ⟨cs, e, fz, hb, hm⟩ := hf
  obtain ⟨cs', fz', hb', hs⟩ := h.shp b cs e fz hb
  exact ⟨cs', e, fz', hb', by omega⟩
theorem Rep.keep {w w' : World} {I : Imm} {ρ : Ren} {e : EV} {v : Value} (h : Rep w I ρ e v) (k : Keep I w w') : Rep w' I ρ e v := by
  induction h with
  | lit ρ v => exact .lit ρ v
  | sb ρ b => exact .sb ρ b
  | ptr ρ id off b o h => exact .ptr ρ id off b o h
  | eptr ρ id off b o h => exact .eptr ρ id off b o h
  | sl ρ es id off len cap a n b o h hc hs hf => exact .sl ρ es id off len cap a n b o h hc hs fun hn => ⟨(hf hn).1, k.fits (hf hn).2⟩
  | mp ρ id b o h => exact .mp ρ id b o h
  | iptr ρ c off b o vs hb hc hr ih => exact .iptr ρ c off b o vs hb (fun j x hx => by rw [k.cell (I.sub _ hb)]; exact hc j x hx) ih
  | isl ρ n cap c a m vs hc hs hf hr ih =>
    exact .isl ρ n cap c a m vs hc hs (fun hn => ⟨(hf hn).1, fun j x hx => by rw [k.cell (I.sub _ (hf hn).1)]; exact (hf hn).2 j x hx⟩) ih
  | isln ρ c => exact .isln ρ c
  | fn ρ f x y xs ys h1 h2 _ _ i1 i2 => exact .fn ρ f x y xs ys h1 h2 i1 i2
  | iface ρ t e v _ ih => exact .iface ρ t e v ih
  | agg ρ c vs h _ ih => exact .agg ρ c vs h ih
  | tup ρ c vs h _ ih => exact .tup ρ c vs h ih
  | top ρ v => exact .top ρ v
  | yl ρ id b h => exact .yl ρ id b h
  | nb ρ id e n b h hf =>
    obtain ⟨cs, fz, h1, h2⟩ := hf
    obtain ⟨cs', fz', h3, h4⟩ := k.shp b cs e fz h1
    exact .nb ρ id e n b h ⟨cs', fz', h3, h4.trans h2⟩
  | nbuf ρ => exact .nbuf ρ
theorem getElem?_app {ρ ρ' : Ren} {id : Nat} {x : Nat × Nat} (h : ρ[id]? = some x) : (ρ ++ ρ')[id]? = some x := by
  rw [List.getElem?_append_left]
  · exact h
  · exact (List.getElem?_eq_some_iff.1 h).1
/-- Only what a renaming says of own memory counts. -/
theorem Rep.ren {w : World} {I : Imm} {ρ ρ' : Ren} {e : EV} {v : Value} (h : Rep w I ρ e v)
    (k : ∀ (id : Nat) (x : Nat × Nat), ρ[id]? = some x → ρ'[id]? = some x) : Rep w I ρ' e v := by
  induction h generalizing ρ' with
  | lit ρ v => exact .lit _ v
  | sb ρ b => exact .sb _ b
  | ptr ρ id off b o h => exact .ptr _ id off b o (k _ _ h)
  | eptr ρ id off b o h => exact .eptr _ id off b o (k _ _ h)
  | sl ρ es id off len cap a n b o h hc hs hf => exact .sl _ es id off len cap a n b o (k _ _ h) hc hs hf
  | mp ρ id b o h => exact .mp _ id b o (k _ _ h)
  | iptr ρ c off b o vs hb hc hr ih => exact .iptr _ c off b o vs hb hc hr
  | isl ρ n cap c a m vs hc hs hf hr ih => exact .isl _ n cap c a m vs hc hs hf hr
  | isln ρ c => exact .isln _ c
  | fn ρ f x y xs ys h1 h2 _ _ i1 i2 => exact .fn _ f x y xs ys h1 h2 (fun j e v a b => i1 j e v a b k) (fun j e v a b => i2 j e v a b k)
  | iface ρ t e v _ ih => exact .iface _ t e v (ih k)
  | agg ρ c vs h _ ih => exact .agg _ c vs h (fun j e v a b => ih j e v a b k)
  | tup ρ c vs h _ ih => exact .tup _ c vs h (fun j e v a b => ih j e v a b k)
  | top ρ v => exact .top _ v
  | yl ρ id b h => exact .yl _ id b (k _ _ h)
  | nb ρ id e n b h hf => exact .nb _ id e n b (k _ _ h) hf
  | nbuf ρ => exact .nbuf _
theorem Rep.ext {w : World} {I : Imm} {ρ : Ren} {e : EV} {v : Value} (h : Rep w I ρ e v) (ρ' : Ren) : Rep w I (ρ ++ ρ') e v :=
  h.ren fun _ _ hx => getElem?_app hx
theorem Rep.closed {w : World} {I : Imm} {e : EV} {v : Value} (h : Rep w I [] e v) (ρ : Ren) : Rep w I ρ e v :=
  h.ren fun _ _ hx => by simp at hx
theorem Rep.imm {w : World} {I J : Imm} {ρ : Ren} {e : EV} {v : Value} (h : Rep w I ρ e v) (k : ∀ b, I.j b → J.j b) : Rep w J ρ e v := by
  induction h with
  | lit ρ v => exact .lit ρ v
  | sb ρ b => exact .sb ρ b
  | ptr ρ id off b o h => exact .ptr ρ id off b o h
  | eptr ρ id off b o h => exact .eptr ρ id off b o h
  | sl ρ es id off len cap a n b o h hc hs hf => exact .sl ρ es id off len cap a n b o h hc hs hf
  | mp ρ id b o h => exact .mp ρ id b o h
  | iptr ρ c off b o vs hb hc hr ih => exact .iptr ρ c off b o vs (k _ hb) hc ih
  | isl ρ n cap c a m vs hc hs hf hr ih => exact .isl ρ n cap c a m vs hc hs (fun hn => ⟨k _ (hf hn).1, (hf hn).2⟩) ih
  | isln ρ c => exact .isln ρ c
  | fn ρ f x y xs ys h1 h2 _ _ i1 i2 => exact .fn ρ f x y xs ys h1 h2 i1 i2
  | iface ρ t e v _ ih => exact .iface ρ t e v ih
  | agg ρ c vs h _ ih => exact .agg ρ c vs h ih
  | tup ρ c vs h _ ih => exact .tup ρ c vs h ih
  | top ρ v => exact .top ρ v
  | yl ρ id b h => exact .yl ρ id b h
  | nb ρ id e n b h hf => exact .nb ρ id e n b h hf
  | nbuf ρ => exact .nbuf ρ
/-- Lists of cells, pointwise. -/
def RepL (w : World) (I : Imm) (ρ : Ren) : List EV → List Value → Prop
  | [], [] => True
  | x :: c, v :: vs => Rep w I ρ x v ∧ RepL w I ρ c vs
  | _, _ => False
theorem RepL.length {w : World} {I : Imm} {ρ : Ren} : ∀ {c : List EV} {vs : List Value}, RepL w I ρ c vs → c.length = vs.length
  | [], [], _ => rfl
  | _ :: c, _ :: vs, h => by simp [h.2.length]
theorem RepL.at {w : World} {I : Imm} {ρ : Ren} : ∀ {c : List EV} {vs : List Value}, RepL w I ρ c vs → ∀ (j : Nat) (x : EV) (v : Value), c[j]? = some x → vs[j]? = some v → Rep w I ρ x v
  | [], [], _, j, x, v, hx, _ => by simp at hx
  | y :: c, u :: vs, h, 0, x, v, hx, hv => by simp at hx hv; subst hx; subst hv; exact h.1
  | y :: c, u :: vs, h, j + 1, x, v, hx, hv => h.2.at j x v (by simpa using hx) (by simpa using hv)
theorem RepL.mk {w : World} {I : Imm} {ρ : Ren} : ∀ {c : List EV} {vs : List Value}, c.length = vs.length →
    (∀ (j : Nat) (x : EV) (v : Value), c[j]? = some x → vs[j]? = some v → Rep w I ρ x v) → RepL w I ρ c vs
  | [], [], _, _ => trivial
  | [], _ :: _, h, _ => by simp at h
  | _ :: _, [], h, _ => by simp at h
  | y :: c, u :: vs, h, k => ⟨k 0 y u rfl rfl, RepL.mk (by simpa using h) fun j x v hx hv => k (j + 1) x v (by simpa using hx) (by simpa using hv)⟩
theorem RepL.map {w w' : World} {I I' : Imm} {ρ ρ' : Ren} (f : ∀ x v, Rep w I ρ x v → Rep w' I' ρ' x v) :
    ∀ {c : List EV} {vs : List Value}, RepL w I ρ c vs → RepL w' I' ρ' c vs
  | [], [], _ => trivial
  | _ :: _, _ :: _, h => ⟨f _ _ h.1, h.2.map f⟩
theorem RepL.app {w : World} {I : Imm} {ρ : Ren} : ∀ {c : List EV} {vs : List Value} {d : List EV} {us : List Value},
    RepL w I ρ c vs → RepL w I ρ d us → RepL w I ρ (c ++ d) (vs ++ us)
  | [], [], _, _, _, k => k
  | _ :: _, _ :: _, _, _, h, k => ⟨h.1, h.2.app k⟩
theorem RepL.drop {w : World} {I : Imm} {ρ : Ren} : ∀ (n : Nat) {c : List EV} {vs : List Value}, RepL w I ρ c vs → RepL w I ρ (c.drop n) (vs.drop n)
  | 0, _, _, h => h
  | _ + 1, [], [], _ => trivial
  | n + 1, _ :: _, _ :: _, h => h.2.drop n
theorem RepL.take {w : World} {I : Imm} {ρ : Ren} : ∀ (n : Nat) {c : List EV} {vs : List Value}, RepL w I ρ c vs → RepL w I ρ (c.take n) (vs.take n)
  | 0, _, _, _ => trivial
  | _ + 1, [], [], _ => trivial
  | n + 1, _ :: _, _ :: _, h => ⟨h.1, h.2.take n⟩
/-- May the cells of a block be written? -/
def fzOk (n : Nat) (fz : Nat × Nat) : Prop := fz.1 = fz.2 ∨ n ≤ fz.1
/-- Where a loop over a function stands: 0: ready, 1: in a round, 2: a round has left it. -/
def LSt (r : Loop) (st : Nat) (pd : Option (Option Nat)) : Prop :=
  r.state = (match st with | 0 => .ready | 1 => .busy | _ => .done) ∧ r.pending = pd.map fun | none => Code.ret | some id => Code.exit id
/-- A block of own memory stands in the model's heap. -/
def OS (I : Imm) (w : World) (ρ : Ren) (id : Nat) : EO → Prop
  | .dead => True
  | .blk c => ∃ b o cs e fz, ρ[id]? = some (b, o) ∧ ¬ I b ∧ w.heap[b]? = some (.cells cs e fz) ∧ fzOk cs.size fz ∧ o + c.length ≤ cs.size ∧
      (∀ (j : Nat) (x : EV), c[j]? = some x → ∃ v, cs[o + j]? = some v ∧ v.oneCell' = true ∧ Rep w I ρ x v)
  | .emap es => ∃ b o ents clock, ρ[id]? = some (b, o) ∧ ¬ I b ∧ w.heap[b]? = some (.map ents clock) ∧ ents.size = es.length ∧
      (∀ (j : Nat) (x : EV × EV), es[j]? = some x → ∃ e, ents[j]? = some e ∧ Rep w I ρ x.1 e.key ∧ Rep w I ρ x.2 e.val)
  | .lp t ps asg body st pd => ∃ b r, ρ[id]? = some (b, 0) ∧ ¬ I b ∧ w.heap[b]? = some (.loop r) ∧ RepL w I ρ t r.tmps.toList ∧ r.params.toList = ps ∧ compC I.P r.assign = some asg ∧ compC I.P r.body = some body ∧ LSt r st pd
  | .row s => ∃ b o cs e fz, ρ[id]? = some (b, o) ∧ ¬ I b ∧ w.heap[b]? = some (.cells cs e fz) ∧ I.P.underlying e = some (.int .u8) ∧ szP I.P e = some 1 ∧ fzOk cs.size fz ∧ o + s.size ≤ cs.size ∧
      (∀ (j : Nat) (x : UInt8), s.data.toList[j]? = some x → cs[o + j]? = some (.int .u8 x.toNat))
  | .itr s pos => ∃ b, ρ[id]? = some (b, 0) ∧ ¬ I b ∧ w.heap[b]? = some (.stringIter s pos)
structure HSim (I : Imm) (w : World) (ρ : Ren) (h : EH) : Prop where
  len : ρ.length = sizeH h
  live : ∀ id : Nat, OS I w ρ id (getH h id)
  inj : ∀ (i j b o o' : Nat), getH h i ≠ .dead → getH h j ≠ .dead → ρ[i]? = some (b, o) → ρ[j]? = some (b, o') → i = j
theorem OS.lt {I : Imm} {w : World} {ρ : Ren} {id : Nat} {eo : EO} (h : OS I w ρ id eo) (hd : eo ≠ .dead) :
    ∃ b o, ρ[id]? = some (b, o) ∧ ¬ I b ∧ b < w.heap.size := by
  cases eo with
  | dead => exact absurd rfl hd
  | blk c => obtain ⟨b, o, cs, e, fz, h1, h2, h3, _⟩ := h; exact ⟨b, o, h1, h2, (Array.getElem?_eq_some_iff.1 h3).1⟩
  | emap es => obtain ⟨b, o, cs, e, h1, h2, h3, _⟩ := h; exact ⟨b, o, h1, h2, (Array.getElem?_eq_some_iff.1 h3).1⟩
  | lp t ps asg body st pd => obtain ⟨b, r, h1, h2, h3, _⟩ := h; exact ⟨b, 0, h1, h2, (Array.getElem?_eq_some_iff.1 h3).1⟩
  | row s => obtain ⟨b, o, cs, e, fz, h1, h2, h3, _⟩ := h; exact ⟨b, o, h1, h2, (Array.getElem?_eq_some_iff.1 h3).1⟩
  | itr s pos => obtain ⟨b, h1, h2, h3⟩ := h; exact ⟨b, 0, h1, h2, (Array.getElem?_eq_some_iff.1 h3).1⟩
/-- A block stays as it stands where the model's block stays. -/
theorem OS.stays {I : Imm} {w w' : World} {ρ ρ' : Ren} {id : Nat} {eo : EO} (h : OS I w ρ id eo) (k : Keep I w w')
    (hr : ∀ (i : Nat) (x : Nat × Nat), ρ[i]? = some x → ρ'[i]? = some x) (hb : ∀ (b o : Nat), ρ[id]? = some (b, o) → w'.heap[b]? = w.heap[b]?) : OS I w' ρ' id eo := by
  cases eo with
  | dead => trivial
  | blk c =>
    obtain ⟨b, o, cs, e, fz, h1, h2, h3, h4, hlen, h5⟩ := h
    refine ⟨b, o, cs, e, fz, hr _ _ h1, h2, by rw [hb b o h1]; exact h3, h4, hlen, fun j x hx => ?_⟩
    obtain ⟨v, hv, ho, hrep⟩ := h5 j x hx
    exact ⟨v, hv, ho, (hrep.keep k).ren hr⟩
  | emap es =>
    obtain ⟨b, o, ents, cl, h1, h2, h3, h4, h5⟩ := h
    refine ⟨b, o, ents, cl, hr _ _ h1, h2, by rw [hb b o h1]; exact h3, h4, fun j x hx => ?_⟩
    obtain ⟨v, hv, ho, hrep⟩ := h5 j x hx
    exact ⟨v, hv, (ho.keep k).ren hr, (hrep.keep k).ren hr⟩
  | lp t ps asg body st pd =>
    obtain ⟨b, r, h1, h2, h3, h4, h5, h6, h7, h8⟩ := h
    exact ⟨b, r, hr _ _ h1, h2, by rw [hb b 0 h1]; exact h3, h4.map fun _ _ x => (x.keep k).ren hr, h5, h6, h7, h8⟩
  | row s =>
    obtain ⟨b, o, cs, e, fz, h1, h2, h3, h4⟩ := h
    exact ⟨b, o, cs, e, fz, hr _ _ h1, h2, by rw [hb b o h1]; exact h3, h4⟩
  | itr s pos =>
    obtain ⟨b, h1, h2, h3⟩ := h
    exact ⟨b, hr _ _ h1, h2, by rw [hb b 0 h1]; exact h3⟩
theorem getH_push_lt : ∀ (h : EH) (o : EO) (id : Nat), id < sizeH h → getH (pushH h o) id = getH h id
  | [], _, _, hl => by simp [sizeH] at hl
  | _ :: _, _, 0, _ => rfl
  | _ :: h, o, id + 1, hl => getH_push_lt h o id (by simp [sizeH] at hl; omega)
theorem getH_push_at : ∀ (h : EH) (o : EO), getH (pushH h o) (sizeH h) = o
  | [], _ => rfl
  | _ :: h, o => getH_push_at h o
theorem getH_push_ge : ∀ (h : EH) (o : EO) (id : Nat), sizeH h < id → getH (pushH h o) id = .dead
  | [], _, id + 1, _ => rfl
  | [], _, 0, hl => by simp [sizeH] at hl
  | _ :: h, o, id + 1, hl => getH_push_ge h o id (by simp [sizeH] at hl; omega)
  | _ :: h, o, 0, hl => by simp at hl
theorem getH_ge : ∀ (h : EH) (id : Nat), sizeH h ≤ id → getH h id = .dead
  | [], _, _ => rfl
  | _ :: h, id + 1, hl => getH_ge h id (by simp [sizeH] at hl; omega)
  | _ :: h, 0, hl => by simp [sizeH] at hl
theorem sizeH_push : ∀ (h : EH) (o : EO), sizeH (pushH h o) = sizeH h + 1
  | [], _ => rfl
  | _ :: h, o => by simp [pushH, sizeH, sizeH_push h o]
theorem sizeH_set : ∀ (h : EH) (id : Nat) (o : EO), sizeH (setH h id o) = sizeH h
  | [], _, _ => rfl
  | _ :: _, 0, _ => rfl
  | _ :: h, id + 1, o => by simp [setH, sizeH, sizeH_set h id o]
theorem getH_set_same : ∀ (h : EH) (id : Nat) (o : EO), id < sizeH h → getH (setH h id o) id = o
  | [], _, _, hl => by simp [sizeH] at hl
  | _ :: _, 0, _, _ => rfl
  | _ :: h, id + 1, o, hl => getH_set_same h id o (by simp [sizeH] at hl; omega)
theorem getH_set_ne : ∀ (h : EH) (id i : Nat) (o : EO), i ≠ id → getH (setH h id o) i = getH h i
  | [], _, _, _, _ => rfl
  | _ :: _, 0, 0, _, hn => absurd rfl hn
  | _ :: _, 0, _ + 1, _, _ => rfl
  | _ :: _, _ + 1, 0, _, _ => rfl
  | _ :: h, id + 1, i + 1, o, hn => getH_set_ne h id i o (by omega)
theorem getH_lt {h : EH} {id : Nat} (hn : getH h id ≠ .dead) : id < sizeH h := by
  rcases Nat.lt_or_ge id (sizeH h) with h1 | h1
  · exact h1
  · exact absurd (getH_ge h id h1) hn
theorem HSim.keep {I : Imm} {w w' : World} {ρ : Ren} {h : EH} (hs : HSim I w ρ h) (k : Keep I w w')
    (hb : ∀ (id b o : Nat), getH h id ≠ .dead → ρ[id]? = some (b, o) → w'.heap[b]? = w.heap[b]?) : HSim I w' ρ h where
  len := hs.len
  live id := by
    by_cases hd : getH h id = .dead
    · rw [hd]; trivial
    · exact OS.stays (hs.live id) k (fun _ _ x => x) (fun b o x => hb id b o hd x)
  inj := hs.inj
theorem HSim.drew {I : Imm} {w : World} {ρ : Ren} {h : EH} (hs : HSim I w ρ h) : HSim I w.drew ρ h :=
  hs.keep (.drew I w) fun _ _ _ _ _ => rfl
theorem heap_alloc_lt (w : World) (o : Obj) {b : Nat} (h : b < w.heap.size) : (w.alloc o).heap[b]? = w.heap[b]? := by
  show (w.heap.push o)[b]? = _
  rw [Array.getElem?_push, if_neg (by omega)]
theorem heap_alloc_at (w : World) (o : Obj) : (w.alloc o).heap[w.heap.size]? = some o := by
  show (w.heap.push o)[w.heap.size]? = _
  rw [Array.getElem?_push, if_pos rfl]
theorem Keep.alloc {I : Imm} (w : World) (o : Obj) (hI : ∀ b, I b → b < w.heap.size) : Keep I w (w.alloc o) :=
  ⟨rfl, rfl, rfl, by simp, fun b hb => heap_alloc_lt w o (hI b hb),
    fun b cs e fz h => ⟨cs, fz, by rw [heap_alloc_lt w o (Array.getElem?_eq_some_iff.1 h).1]; exact h, rfl⟩⟩
/-- A new block. -/
theorem HSim.alloc {I : Imm} {w : World} {ρ : Ren} {h : EH} (hs : HSim I w ρ h) (hI : ∀ b, I b → b < w.heap.size) (o : Obj) (eo : EO)
    (hnew : OS I (w.alloc o) (ρ ++ [(w.heap.size, 0)]) (sizeH h) eo) : HSim I (w.alloc o) (ρ ++ [(w.heap.size, 0)]) (pushH h eo) where
  len := by simp [hs.len, sizeH_push]
  live id := by
    rcases Nat.lt_trichotomy id (sizeH h) with hlt | heq | hgt
    · rw [getH_push_lt h eo id hlt]
      by_cases hd : getH h id = .dead
      · rw [hd]; trivial
      · obtain ⟨b, ob, hb, _, hbl⟩ := OS.lt (hs.live id) hd
        refine OS.stays (hs.live id) (.alloc w o hI) (fun _ _ x => getElem?_app x) fun b' o' hb' => ?_
        rw [hb] at hb'; cases hb'
        exact heap_alloc_lt w o hbl
    · subst heq; rw [getH_push_at]; exact hnew
    · rw [getH_push_ge h eo id hgt]; trivial
  inj i j b o1 o2 hi hj h1 h2 := by
    have old : ∀ k, getH (pushH h eo) k ≠ .dead → k < sizeH h → ∀ b' o', (ρ ++ [(w.heap.size, 0)])[k]? = some (b', o') → ρ[k]? = some (b', o') ∧ getH h k ≠ .dead ∧ b' < w.heap.size := by
      intro k hk hkl b' o' hr
      rw [getH_push_lt h eo k hkl] at hk
      rw [List.getElem?_append_left (by rw [hs.len]; exact hkl)] at hr
      obtain ⟨b2, o2, hb2, _, hl2⟩ := OS.lt (hs.live k) hk
      rw [hr] at hb2; cases hb2
      exact ⟨hr, hk, hl2⟩
    have new : ∀ k, ¬ k < sizeH h → ∀ b' o', (ρ ++ [(w.heap.size, 0)])[k]? = some (b', o') → k = sizeH h ∧ b' = w.heap.size := by
      intro k hk b' o' hr
      rw [List.getElem?_append_right (by rw [hs.len]; omega)] at hr
      have : k - ρ.length = 0 := by
        rcases Nat.eq_zero_or_pos (k - ρ.length) with h0 | h0
        · exact h0
        · rw [List.getElem?_eq_none (by simp; omega)] at hr; cases hr
      rw [this] at hr; simp at hr
      exact ⟨by have := hs.len; omega, hr.1.symm⟩
    by_cases hil : i < sizeH h <;> by_cases hjl : j < sizeH h
    · obtain ⟨a1, a2, _⟩ := old i hi hil b o1 h1
      obtain ⟨b1, b2, _⟩ := old j hj hjl b o2 h2
      exact hs.inj i j b o1 o2 a2 b2 a1 b1
    · obtain ⟨_, _, a3⟩ := old i hi hil b o1 h1
      have := (new j hjl b o2 h2).2; omega
    · obtain ⟨_, _, a3⟩ := old j hj hjl b o2 h2
      have := (new i hil b o1 h1).2; omega
    · rw [(new i hil b o1 h1).1, (new j hjl b o2 h2).1]
/-- A block that is dead may be of whatever content. -/
theorem HSim.kill {I : Imm} {w : World} {ρ : Ren} {h : EH} (hs : HSim I w ρ h) (id : Nat) : HSim I w ρ (setH h id .dead) where
  len := by rw [sizeH_set]; exact hs.len
  live i := by
    by_cases hi : i = id
    · subst hi
      rcases Nat.lt_or_ge i (sizeH h) with hl | hl
      · rw [getH_set_same h i _ hl]; trivial
      · rw [getH_ge _ _ (by rw [sizeH_set]; exact hl)]; trivial
    · rw [getH_set_ne h id i _ hi]; exact hs.live i
  inj i j b o1 o2 hi hj h1 h2 := by
    have ne : ∀ k, getH (setH h id .dead) k ≠ .dead → getH h k ≠ .dead := by
      intro k hk
      by_cases hki : k = id
      · subst hki
        rcases Nat.lt_or_ge k (sizeH h) with hl | hl
        · rw [getH_set_same h k _ hl] at hk; exact absurd rfl hk
        · rw [getH_ge _ _ (by rw [sizeH_set]; exact hl)] at hk; exact absurd rfl hk
      · rw [getH_set_ne h id k _ hki] at hk; exact hk
    exact hs.inj i j b o1 o2 (ne i hi) (ne j hj) h1 h2
/-- A live block written over. -/
theorem HSim.write {I : Imm} {w w' : World} {ρ : Ren} {h : EH} (hs : HSim I w ρ h) {id b o : Nat} (k : Keep I w w')
    (hl : getH h id ≠ .dead) (hr : ρ[id]? = some (b, o)) (ho : ∀ b', b' ≠ b → w'.heap[b']? = w.heap[b']?) (eo : EO)
    (hnew : OS I w' ρ id eo) : HSim I w' ρ (setH h id eo) where
  len := by rw [sizeH_set]; exact hs.len
  live i := by
    by_cases hi : i = id
    · subst hi; rw [getH_set_same h i _ (getH_lt hl)]; exact hnew
    · rw [getH_set_ne h id i _ hi]
      by_cases hd : getH h i = .dead
      · rw [hd]; trivial
      · refine OS.stays (hs.live i) k (fun _ _ x => x) fun b' o' hb' => ho b' fun e => ?_
        subst e
        exact hi (hs.inj i id b' o' o hd hl hb' hr)
  inj i j b' o1 o2 hi hj h1 h2 := by
    have ne : ∀ k, getH (setH h id eo) k ≠ .dead → getH h k ≠ .dead := by
      intro k hk
      by_cases hki : k = id
      · subst hki; exact hl
      · rw [getH_set_ne h id k _ hki] at hk; exact hk
    exact hs.inj i j b' o1 o2 (ne i hi) (ne j hj) h1 h2
end Go.Proofs.YtpgeonghlabnhaaGreatDoor.Em
