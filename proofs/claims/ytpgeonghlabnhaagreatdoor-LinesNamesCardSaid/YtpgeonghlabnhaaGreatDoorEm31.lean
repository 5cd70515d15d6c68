/- Em31: closed runs anew: an instruction's step, heap and all, sound against Em22's. No conditions beyond those written. -/
import Derived.Test.YtpgeonghlabnhaaGreatDoorEm30
set_option linter.unusedVariables false
set_option linter.unusedSimpArgs false
namespace Go.Proofs.YtpgeonghlabnhaaGreatDoor.Em
open Go
section
variable {β γ : Type}
/-! the heap, its newest block first -/
noncomputable def getR : EH → Nat → EO :=
  @List.rec EO (fun _ => Nat → EO) (fun _ => .dead) (fun x _ ih n => @Nat.rec (fun _ => EO) x (fun m _ => ih m) n)
theorem getR_eq : ∀ (l : EH) (n : Nat), getR l n = getH l n
  | [], _ => by simp only [getH]; rfl
  | x :: l, 0 => rfl
  | x :: l, n + 1 => getR_eq l n
noncomputable def gX (n : Nat) (l : EH) (id : Nat) : EO := @Bool.rec (fun _ => EO) .dead (getR l (Nat.sub (Nat.sub n 1) id)) (Nat.blt id n)
noncomputable def getX (n : Nat) (l : EH) (id : Nat) (k : EO → Option β) : Option β := @Bool.rec (fun _ => Option β) (k .dead) (getO l (Nat.sub (Nat.sub n 1) id) k) (Nat.blt id n)
theorem getH_getD : ∀ (l : EH) (i : Nat), getH l i = (l[i]?).getD .dead
  | [], i => by simp [getH]
  | x :: l, 0 => by simp [getH]
  | x :: l, i + 1 => by simpa [getH] using getH_getD l i
theorem sizeH_len : ∀ l : EH, sizeH l = l.length
  | [] => rfl
  | x :: l => by simp [sizeH, sizeH_len l]
theorem pushH_app : ∀ (l : EH) (o : EO), pushH l o = l ++ [o]
  | [], o => rfl
  | x :: l, o => by simp [pushH, pushH_app l]
theorem setH_set : ∀ (l : EH) (i : Nat) (o : EO), setH l i o = l.set i o
  | [], i, o => by simp [setH]
  | x :: l, 0, o => by simp [setH]
  | x :: l, i + 1, o => by simp [setH, setH_set l]
theorem getH_rev {n : Nat} {l : EH} (hn : n = l.length) (id : Nat) : getH l.reverse id = if id < n then getH l (n - 1 - id) else .dead := by
  subst hn
  rw [getH_getD, getH_getD]
  split
  · rename_i h; rw [List.getElem?_reverse h]
  · rename_i h; rw [List.getElem?_eq_none (by simpa using h)]; rfl
theorem gX_eq {n : Nat} {l : EH} (hn : n = l.length) (id : Nat) : gX n l id = getH l.reverse id := by
  rw [getH_rev hn]
  unfold gX
  cases h : Nat.blt id n with
  | true =>
    have : id < n := by simpa [Nat.blt_eq] using h
    rw [if_pos this]
    exact getR_eq _ _
  | false =>
    have : ¬ id < n := fun hh => by rw [← Nat.blt_eq] at hh; rw [h] at hh; cases hh
    rw [if_neg this]
theorem getX_eq {n : Nat} {l : EH} (hn : n = l.length) (id : Nat) (k : EO → Option β) : getX n l id k = k (getH l.reverse id) := by
  rw [getH_rev hn]
  unfold getX
  cases h : Nat.blt id n with
  | true =>
    have : id < n := by simpa [Nat.blt_eq] using h
    rw [if_pos this]
    exact getO_eq _ _ _
  | false =>
    have : ¬ id < n := fun hh => by rw [← Nat.blt_eq] at hh; rw [h] at hh; cases hh
    rw [if_neg this]
noncomputable def appX : Eff → Nat → EH → (Nat → EH → Option β) → Option β :=
  @Eff.rec (fun _ => Nat → EH → (Nat → EH → Option β) → Option β) (fun n l k => k n l)
    (fun id o n l k => @Bool.rec (fun _ => Option β) (k n l) (setO l (Nat.sub (Nat.sub n 1) id) o (fun l => k n l)) (Nat.blt id n))
    (fun o n l k => fN (Nat.succ n) fun n => k n (o :: l))
    (fun id a b n l k => @Bool.rec (fun _ => Option β) (fN (Nat.succ n) fun n => k n (b :: l)) (setO l (Nat.sub (Nat.sub n 1) id) a (fun l => fN (Nat.succ n) fun n => k n (b :: l))) (Nat.blt id n))
theorem set_rev {n : Nat} {l : EH} (hn : n = l.length) {id : Nat} (o : EO) (h : id < n) : (setH l (n - 1 - id) o).reverse = setH l.reverse id o := by
  subst hn
  rw [setH_set, setH_set]
  apply List.ext_getElem?
  intro i
  by_cases hi : i < l.length
  · rw [List.getElem?_reverse (by simpa using hi), List.getElem?_set, List.getElem?_set, List.length_set]
    by_cases he : id = i
    · subst he
      rw [if_pos rfl, if_pos rfl, if_pos (by omega), if_pos (by simpa using hi)]
    · rw [if_neg (by omega), if_neg he, List.getElem?_reverse hi]
  · rw [List.getElem?_eq_none (by simpa using hi), List.getElem?_eq_none (by simpa using hi)]
theorem appX_eq {n : Nat} {l : EH} (hn : n = l.length) (e : Eff) : ∃ n' l', n' = l'.length ∧ l'.reverse = e.app l.reverse ∧ ∀ k : Nat → EH → Option β, appX e n l k = k n' l' := by
  cases e with
  | no => exact ⟨n, l, hn, rfl, fun k => rfl⟩
  | set id o =>
    cases h : Nat.blt id n with
    | true =>
      have h' : id < n := by simpa [Nat.blt_eq] using h
      refine ⟨n, setH l (n - 1 - id) o, by rw [setH_set]; simpa using hn, set_rev hn o h', fun k => ?_⟩
      show @Bool.rec (fun _ => Option β) (k n l) (setO l (Nat.sub (Nat.sub n 1) id) o (fun l => k n l)) (Nat.blt id n) = _
      rw [h]
      exact setO_eq _ _ _ _
    | false =>
      have h' : ¬ id < n := fun hh => by rw [← Nat.blt_eq] at hh; rw [h] at hh; cases hh
      refine ⟨n, l, hn, ?_, fun k => ?_⟩
      · simp only [Eff.app]
        rw [setH_set, List.set_eq_of_length_le (by simp; omega)]
      · show @Bool.rec (fun _ => Option β) (k n l) (setO l (Nat.sub (Nat.sub n 1) id) o (fun l => k n l)) (Nat.blt id n) = _
        rw [h]
  | push o =>
    refine ⟨n + 1, o :: l, by simp [hn], by simp [Eff.app, pushH_app], fun k => ?_⟩
    show fN (Nat.succ n) (fun n => k n (o :: l)) = _
    rw [fN_eq]
  | both id a b =>
    cases h : Nat.blt id n with
    | true =>
      have h' : id < n := by simpa [Nat.blt_eq] using h
      refine ⟨n + 1, b :: setH l (n - 1 - id) a, by rw [setH_set]; simp [hn], by simp only [Eff.app, pushH_app, List.reverse_cons]; rw [set_rev hn a h'], fun k => ?_⟩
      show @Bool.rec (fun _ => Option β) (fN (Nat.succ n) fun n => k n (b :: l)) (setO l (Nat.sub (Nat.sub n 1) id) a (fun l => fN (Nat.succ n) fun n => k n (b :: l))) (Nat.blt id n) = _
      rw [h]
      show setO l (Nat.sub (Nat.sub n 1) id) a (fun l => fN (Nat.succ n) fun n => k n (b :: l)) = _
      rw [setO_eq, fN_eq]
      rfl
    | false =>
      have h' : ¬ id < n := fun hh => by rw [← Nat.blt_eq] at hh; rw [h] at hh; cases hh
      refine ⟨n + 1, b :: l, by simp [hn], ?_, fun k => ?_⟩
      · simp only [Eff.app, pushH_app, List.reverse_cons]
        rw [setH_set, List.set_eq_of_length_le (by simp; omega)]
      · show @Bool.rec (fun _ => Option β) (fN (Nat.succ n) fun n => k n (b :: l)) (setO l (Nat.sub (Nat.sub n 1) id) a (fun l => fN (Nat.succ n) fun n => k n (b :: l))) (Nat.blt id n) = _
        rw [h]
        show fN (Nat.succ n) (fun n => k n (b :: l)) = _
        rw [fN_eq]
/-! outcomes with what they make of the heap -/
noncomputable def rXE : XE → (EV → Eff → Option β) → Option β :=
  @XE.rec (fun _ => (EV → Eff → Option β) → Option β) (fun _ => none) (fun v e k => k v e)
    (fun b _ ih k => @Bool.rec (fun _ => Option β) none (ih k) b)
    (fun b v1 e1 v2 e2 k => @Bool.rec (fun _ => Option β) (k v2 e2) (k v1 e1) b)
    (fun o ok z k => match o with | none => k (if ok then .tup [z, .lit (.bool false)] else z) .no | some x => k (if ok then .tup [x, .lit (.bool true)] else x) .no)
    (fun v w k => match eqE v w with | true => k undefE .no | false => none)
    (fun c off n agg w k => match lookE kA c off n agg with | some v => (match eqE v w with | true => k undefE .no | false => none) | none => none)
theorem rXE_imp {Q : Option γ → Prop} {k : EV → Eff → Option β} {K : EV → EH → Option γ} {c' : FuncId → List EV → Option γ} {h : EH} {r : β} (hk : ∀ v e, k v e = some r → Q (K v (e.app h))) :
    ∀ s : XE, rXE s k = some r → Q (exSR kA K c' (s.to h))
  | .stuck, he => by cases he
  | .ret v e, he => hk _ _ he
  | .need b s, he => by
    cases b with
    | true => exact rXE_imp hk s he
    | false => cases he
  | .br b v1 e1 v2 e2, he => by
    cases b with
    | true => exact hk _ _ he
    | false => exact hk _ _ he
  | .opt o ok z, he => by
    cases o with
    | none => exact hk _ .no he
    | some x => exact hk _ .no he
  | .same v w, he => by
    have he : (match eqE v w with | true => k undefE .no | false => none) = some r := he
    show Q (match eqE v w with | true => K undefE h | false => none)
    cases hq : eqE v w with
    | true => rw [hq] at he; exact hk _ .no he
    | false => rw [hq] at he; cases he
  | .lookS c off n agg w, he => by
    have he : (match lookE kA c off n agg with | some v => (match eqE v w with | true => k undefE .no | false => none) | none => none) = some r := he
    show Q (match lookE kA c off n agg with | some v => (match eqE v w with | true => K undefE h | false => none) | none => none)
    cases hl : lookE kA c off n agg with
    | none => rw [hl] at he; cases he
    | some v =>
      rw [hl] at he
      simp only at he ⊢
      cases hq : eqE v w with
      | true => rw [hq] at he; exact hk _ .no he
      | false => rw [hq] at he; cases he
noncomputable def gEff (e : Eff) (k : Eff → Option β) : Option β :=
  @Eff.rec (fun _ => (Eff → Option β) → Option β) (fun k => k .no) (fun id o k => fN id fun id => gO o fun o => k (.set id o)) (fun o k => gO o fun o => k (.push o))
    (fun id a b k => fN id fun id => gO a fun a => gO b fun b => k (.both id a b)) e k
theorem gEff_eq (e : Eff) (k : Eff → Option β) : gEff e k = k e := by
  cases e with
  | no => rfl
  | set id o => show fN id (fun id => gO o fun o => k (.set id o)) = _; rw [fN_eq, gO_eq]
  | push o => show gO o (fun o => k (.push o)) = _; rw [gO_eq]
  | both id a b => show fN id (fun id => gO a fun a => gO b fun b => k (.both id a b)) = _; rw [fN_eq, gO_eq, gO_eq]
/-- a block's cells alone, laid out -/
noncomputable def sEff (e : Eff) (k : Eff → Option β) : Option β :=
  match e with
  | .set id (.blk c) => fS c fun c => k (.set id (.blk c))
  | e => k e
theorem sEff_eq (e : Eff) (k : Eff → Option β) : sEff e k = k e := by
  unfold sEff
  split
  · rw [fS_eq]
  · rfl
noncomputable def pureC (r : SR) (k : EV → Eff → Option β) (c : FuncId → List EV → Option β) : Option β := rSR r (fun v _ => gE v fun v => k v .no) c
noncomputable def easyC (r : SR) (k : EV → Eff → Option β) (c : FuncId → List EV → Option β) : Option β := rSR r (fun v _ => k v .no) c
noncomputable def effC (r : XE) (k : EV → Eff → Option β) : Option β := rXE r fun v e => gE v fun v => gEff e fun e => k v e
noncomputable def effS (r : XE) (k : EV → Eff → Option β) : Option β := rXE r fun v e => sEff e fun e => k v e
section
variable {Q : Option γ → Prop} {k : EV → Eff → Option β} {c : FuncId → List EV → Option β} {K : EV → EH → Option γ} {c' : FuncId → List EV → Option γ} {h : EH} {r : β}
  (hk : ∀ v e, k v e = some r → Q (K v (e.app h))) (hc : ∀ f a, c f a = some r → Q (c' f a))
include hk hc
theorem easyC_imp {s : SR} (ha : AllH h s) (he : easyC s k c = some r) : Q (exSR kA K c' s) := by
  unfold easyC at he
  rw [rSR_eq] at he
  rw [AllH.ex (k := K) (k' := fun v _ => K v h) (fun v => rfl) ha]
  exact exSR_imp (fun v h' e => hk v .no e) hc s he
theorem pureC_imp {s : SR} (ha : AllH h s) (he : pureC s k c = some r) : Q (exSR kA K c' s) := by
  refine easyC_imp hk hc ha (he ▸ ?_)
  unfold easyC pureC
  congr 1
  funext v _
  rw [gE_eq]
omit hc in
theorem effC_imp {s : XE} (he : effC s k = some r) : Q (exSR kA K c' (s.to h)) := by
  refine rXE_imp (fun v e e1 => ?_) s he
  rw [gE_eq, gEff_eq] at e1
  exact hk v e e1
omit hc in
theorem effS_imp {s : XE} (he : effS s k = some r) : Q (exSR kA K c' (s.to h)) := by
  refine rXE_imp (fun v e e1 => ?_) s he
  rw [sEff_eq] at e1
  exact hk v e e1
end
/-! reading -/
noncomputable def cellK (agg : Bool) (n : Nat) (c : List EV) (off : Nat) (k : EV → Option β) : Option β :=
  match agg with
  | false => match Nat.beq n 1 with | true => nthK c off k | false => none
  | true => match rd c off n with | some cs => gL cs fun cs => k (.agg cs) | none => none
noncomputable def lookK (agg : Bool) (n : Nat) (c : List EV) (off : Nat) (k : EV → Option β) : Option β :=
  match agg with
  | false => match Nat.beq n 1 with | true => nthK c off k | false => none
  | true => match lookE kA c off n true with | some v => gE v k | none => none
theorem rd_one : ∀ (c : List EV) (off : Nat) (v : EV), nthE c off = some v → rd c off 1 = some [v]
  | [], off, v, h => by simp [nthE] at h
  | x :: l, 0, v, h => by simp only [nthE, Option.some.injEq] at h; subst h; cases l <;> simp [rd]
  | x :: l, off + 1, v, h => by simp only [nthE] at h; simpa [rd] using rd_one l off v h
theorem look_one : ∀ (c : List EV) (off : Nat) (v : EV), nthE c off = some v → lookE kA c off 1 false = some v := by
  intro c off v h
  have h1 : (kA.tak 1 (kA.drp off c)) = [v] := by
    have : ∀ (c : List EV) (off : Nat), nthE c off = some v → (c.drop off).take 1 = [v] := by
      intro c
      induction c with
      | nil => intro off h; simp [nthE] at h
      | cons x l ih =>
        intro off h
        cases off with
        | zero => simp only [nthE, Option.some.injEq] at h; subst h; simp
        | succ m => simp only [nthE] at h; simpa using ih m h
    exact this c off h
  simp only [lookE, h1]
  rfl
theorem cellK_imp {agg : Bool} {n : Nat} {cl : List EV} {off : Nat} {k : EV → Option β} {r : β} (he : cellK agg n cl off k = some r) : ∃ cs v, rd cl off n = some cs ∧ mkV agg cs = some v ∧ k v = some r := by
  unfold cellK at he
  cases agg with
  | false =>
    simp only at he
    cases hb : Nat.beq n 1 with
    | false => rw [hb] at he; cases he
    | true =>
      rw [hb] at he
      have := Nat.eq_of_beq_eq_true hb; subst this
      simp only at he
      rw [nthK_eq] at he
      cases hv : nthE cl off with
      | none => rw [hv] at he; cases he
      | some v => rw [hv] at he; exact ⟨[v], v, rd_one _ _ _ hv, rfl, he⟩
  | true =>
    simp only at he
    cases hr : rd cl off n with
    | none => rw [hr] at he; cases he
    | some cs => rw [hr] at he; simp only at he; rw [gL_eq] at he; exact ⟨cs, .agg cs, rfl, rfl, he⟩
theorem lookK_imp {agg : Bool} {n : Nat} {cl : List EV} {off : Nat} {k : EV → Option β} {r : β} (he : lookK agg n cl off k = some r) : ∃ v, lookE kA cl off n agg = some v ∧ k v = some r := by
  unfold lookK at he
  cases agg with
  | false =>
    simp only at he
    cases hb : Nat.beq n 1 with
    | false => rw [hb] at he; cases he
    | true =>
      rw [hb] at he
      have := Nat.eq_of_beq_eq_true hb; subst this
      simp only at he
      rw [nthK_eq] at he
      cases hv : nthE cl off with
      | none => rw [hv] at he; cases he
      | some v => rw [hv] at he; exact ⟨v, look_one _ _ _ hv, he⟩
  | true =>
    simp only at he
    cases hr : lookE kA cl off n true with
    | none => rw [hr] at he; cases he
    | some v => rw [hr] at he; simp only at he; rw [gE_eq] at he; exact ⟨v, rfl, he⟩
noncomputable def loadK (agg : Bool) (m : Nat) (x : EV) (n : Nat) (l : EH) (k : EV → Option β) : Option β :=
  match x with
  | .ptr id off => getX n l id fun o => match o with | .blk c => cellK agg m c off k | _ => none
  | .eptr id off => getX n l id fun o => match o with | .blk c => lookK agg m c off k | _ => none
  | .iptr c off => lookK agg m c off k
  | _ => none
theorem loadK_imp {Q : Option γ → Prop} {agg : Bool} {m : Nat} {x : EV} {n : Nat} {l : EH} {k : EV → Option β} {K : EV → EH → Option γ} {c' : FuncId → List EV → Option γ} {r : β} (hn : n = l.length)
    (hk : ∀ v, k v = some r → Q (K v l.reverse)) (he : loadK agg m x n l k = some r) : Q (exSR kA K c' (loadE agg m x l.reverse)) := by
  unfold loadK at he
  unfold loadE
  cases x with
  | ptr id off =>
    simp only at he ⊢
    rw [getX_eq hn] at he
    cases hg : getH l.reverse id with
    | blk c =>
      rw [hg] at he
      obtain ⟨cs, v, h1, h2, h3⟩ := cellK_imp he
      simp only [h1, h2]
      exact hk v h3
    | _ => rw [hg] at he; cases he
  | eptr id off =>
    simp only at he ⊢
    rw [getX_eq hn] at he
    cases hg : getH l.reverse id with
    | blk c =>
      rw [hg] at he
      obtain ⟨v, h1, h3⟩ := lookK_imp he
      simp only [exSR, h1]
      exact hk v h3
    | _ => rw [hg] at he; cases he
  | iptr c off =>
    simp only at he ⊢
    obtain ⟨v, h1, h3⟩ := lookK_imp he
    simp only [exSR, h1]
    exact hk v h3
  | _ => cases he
/-- **one instruction** -/
noncomputable def stepC : EI → List (List EV) → List EV → Nat → EH → (EV → Eff → Option β) → (FuncId → List EV → Option β) → Option β :=
  @EI.rec (fun _ => List (List EV) → List EV → Nat → EH → (EV → Eff → Option β) → (FuncId → List EV → Option β) → Option β)
    (fun x G t n l k c => evalK x G t fun v => k v .no)
    (fun p a b G t n l k c => evalK p G t fun p => evalK a G t fun a => evalK b G t fun b => easyC (pickE p a b l.reverse) k c)
    (fun z G t n l k c => effC (boxX (.agg (litL z)) n) k)
    (fun x G t n l k c => evalK x G t fun v => effC (boxX v n) k)
    (fun z ps G t n l k c => fillK ps G t (litL z) fun cs => gL cs fun cs => k (.agg cs) .no)
    (fun es m z ps G t n l k c => fillK ps G t (litL z) fun cs => match allOne cs with | true => effC (.ret (.sl es n 0 m (some m)) (.push (.blk cs))) k | false => none)
    (fun agg m x G t n l k c => evalK x G t fun x => loadK agg m x n l fun v => k v .no)
    (fun m x v G t n l k c => evalK x G t fun x => evalK v G t fun v => effS (storeX kA m x v (gX n l)) k)
    (fun x G t n l k c => evalK x G t fun x => easyC (nilCheckE x l.reverse) k c)
    (fun op x y td G t n l k c => evalK x G t fun x => evalK y G t fun y => pureC (binE kA op x y td l.reverse) k c)
    (fun op x G t n l k c => evalK x G t fun x => pureC (unE kA op x l.reverse) k c)
    (fun i x G t n l k c => evalK x G t fun x => pureC (convE kA i x l.reverse) k c)
    (fun x G t n l k c => evalK x G t fun x => easyC (cstrE x l.reverse) k c)
    (fun x G t n l k c => evalK x G t fun x => effC (s2bX kA x n) k)
    (fun x G t n l k c => evalK x G t fun x => effC (b2sX kA x (gX n l)) k)
    (fun x G t n l k c => evalK x G t fun x => effC (strishX kA x (gX n l)) k)
    (fun ty x G t n l k c => evalK x G t fun x => k (.iface ty x) .no)
    (fun f a b G t n l k c => evalLK a G t fun a => evalLK b G t fun b => k (.fn f a b) .no)
    (fun G t n l k c => effC (.ret (.mp n) (.push (.emap []))) k)
    (fun es bytes z a b G t n l k c => evalK a G t fun a => evalK b G t fun b => effC (mkSliceX kA es bytes (litL z) a b n) k)
    (fun es x lo hi mx G t n l k c => evalK x G t fun x => match boundE G t lo, boundE G t hi, boundE G t mx with
      | some lo, some hi, some mx => pureC (sliceE kA es x lo hi mx l.reverse) k c
      | _, _, _ => none)
    (fun x lo hi G t n l k c => evalK x G t fun x => match boundE G t lo, boundE G t hi with
      | some lo, some hi => pureC (sliceStrE kA x lo hi l.reverse) k c
      | _, _ => none)
    (fun m x G t n l k c => evalK x G t fun x => pureC (s2aE kA m x l.reverse) k c)
    (fun o x G t n l k c => evalK x G t fun x => pureC (fieldAddrE kA o x l.reverse) k c)
    (fun agg o m x G t n l k c => evalK x G t fun x => pureC (fieldE agg o m x l.reverse) k c)
    (fun es x i G t n l k c => evalK x G t fun x => evalK i G t fun i => pureC (indexAddrE kA es x i l.reverse) k c)
    (fun es m x i G t n l k c => evalK x G t fun x => evalK i G t fun i => pureC (indexAddrArrE kA es m x i l.reverse) k c)
    (fun agg es m x i G t n l k c => evalK x G t fun x => evalK i G t fun i => pureC (indexArrE kA agg es m x i l.reverse) k c)
    (fun x i G t n l k c => evalK x G t fun x => evalK i G t fun i => pureC (indexStrE kA x i l.reverse) k c)
    (fun ks z isA ok x y G t n l k c => evalK x G t fun x => evalK y G t fun y => effC (lookupX kA ks z isA ok x y (gX n l)) k)
    (fun ks x y v G t n l k c => evalK x G t fun x => evalK y G t fun y => evalK v G t fun v => effC (mapSetX kA ks x y v (gX n l)) k)
    (fun x i G t n l k c => evalK x G t fun x => pureC (extractE x i l.reverse) k c)
    (fun f args G t n l k c => evalLK args G t fun args => c f args)
    (fun x args G t n l k c => evalK x G t fun x => evalLK args G t fun args => easyC (callvE x args) k c)
    (fun x _ cands args G t n l k c => evalK x G t fun x => evalLK args G t fun args => easyC (invokeE x cands args) k c)
    (fun es bytes x y G t n l k c => evalK x G t fun x => evalK y G t fun y => effC (appendX kA es bytes x y (gX n l) n) k)
    (fun m x G t n l k c => evalK x G t fun x => effC (lenX kA m x (gX n l)) k)
    (fun es x y G t n l k c => evalK x G t fun x => evalK y G t fun y => effC (copyX kA es x y (gX n l)) k)
    (fun mx x xs G t n l k c => evalK x G t fun x => evalLK xs G t fun xs => pureC (minmaxE kA mx x xs l.reverse) k c)
    (fun d agg m x G t n l k c => evalK x G t fun x => getK t d fun w => effC (againX w agg m x (gX n l)) k)
    (fun x y G t n l k c => evalK x G t fun x => evalK y G t fun y => easyC (apartE x y l.reverse) k c)
    (fun x G t n l k c => evalK x G t fun x => easyC (panicE x) k c)
    (fun ty z isA ok x G t n l k c => evalK x G t fun x => easyC (tassertE ty z isA ok x l.reverse) k c)
    (fun x G t n l k c => evalK x G t fun x => effC (rngSX x n) k)
    (fun x G t n l k c => evalK x G t fun x => effC (nxtSX kA x (gX n l)) k)
    (fun e m z G t n l k c => effC (.ret (.ptr n 0) (.push (.blk (nbZ n e m (litL z))))) k)
    (fun x G t n l k c => evalK x G t fun x => effC (toUX x (gX n l)) k)
    (fun okl x G t n l k c => evalK x G t fun x => effC (fromUX okl x (gX n l)) k)
    (fun x G t n l k c => evalK x G t fun x => effC (sdataX kA x (gX n l)) k)
    (fun x y G t n l k c => evalK x G t fun x => evalK y G t fun y => effC (ustrX kA x y (gX n l)) k)
    (fun x G t n l k c => evalK x G t fun v => k v .no)
    (fun x y G t n l k c => evalK x G t fun x => evalK y G t fun y => effC (appendBX kA x y (gX n l) n) k)
    (fun op el x y G t n l k c => evalK x G t fun x => evalK y G t fun y => easyC (peqE kA op el x y l.reverse) k c)
    (fun e m x G t n l k c => evalK x G t fun v => effC (boxBX e m v n) k)
    (fun op il x y G t n l k c => evalK x G t fun x => evalK y G t fun y => easyC (ieqE kA op il x y l.reverse) k c)
    (fun es z x G t n l k c => evalK x G t fun x => effC (clrX kA es (litL z) x (gX n l)) k)
    (fun G t n l k c => none)
theorem stepC_imp {Q : Option γ → Prop} {k : EV → Eff → Option β} {c : FuncId → List EV → Option β} {K : EV → EH → Option γ} {c' : FuncId → List EV → Option γ} {G : List (List EV)} {t : List EV} {n : Nat} {l : EH} {r : β}
    (hn : n = l.length) (hk : ∀ v e, k v e = some r → Q (K v (e.app l.reverse))) (hc : ∀ f a, c f a = some r → Q (c' f a)) (ei : EI) (he : stepC ei G t n l k c = some r) :
    Q (exSR kA K c' (stepI kA G t l.reverse ei)) := by
  have hg : gX n l = getH l.reverse := funext (gX_eq hn)
  have hs : n = sizeH l.reverse := by rw [sizeH_len]; simpa using hn
  unfold stepC at he
  cases ei with
  | mov x => simp only [evalK_eq] at he; exact hk _ .no he
  | pick p a b => simp only [evalK_eq] at he; exact easyC_imp hk hc (pickE_h _ _ _) he
  | alloc z => simp only [stepI]; rw [boxX_eq, ← hs]; exact effC_imp hk he
  | box x => simp only [evalK_eq] at he; simp only [stepI]; rw [boxX_eq, ← hs]; exact effC_imp hk he
  | build z ps =>
    simp only [fillK_eq, gL_eq] at he
    simp only [stepI]
    split at he
    · rename_i cs hcs; rw [hcs]; exact hk _ .no he
    · cases he
  | buildSlice es m z ps =>
    simp only [fillK_eq] at he
    simp only [stepI]
    split at he
    · rename_i cs hcs
      rw [hcs]
      split at he
      · rename_i ho
        simp only [ho, if_true]
        have := effC_imp (s := .ret (.sl es n 0 m (some m)) (.push (.blk cs))) (K := K) (c' := c') hk he
        rwa [hs] at this
      · cases he
    · cases he
  | load agg m x => simp only [evalK_eq] at he; exact loadK_imp hn (fun v e => hk v .no e) he
  | store m x v => simp only [evalK_eq, hg] at he; simp only [stepI]; rw [storeX_eq]; exact effS_imp hk he
  | nilCheck x => simp only [evalK_eq] at he; exact easyC_imp hk hc (nilCheckE_h _) he
  | bin op x y td => simp only [evalK_eq] at he; exact pureC_imp hk hc (binE_h _ _ _ _ _) he
  | un op x => simp only [evalK_eq] at he; exact pureC_imp hk hc (unE_h _ _ _) he
  | conv i x => simp only [evalK_eq] at he; exact pureC_imp hk hc (convE_h _ _ _) he
  | cstr x => simp only [evalK_eq] at he; exact easyC_imp hk hc (cstrE_h _) he
  | s2b x => simp only [evalK_eq] at he; simp only [stepI]; rw [s2bX_eq, ← hs]; exact effC_imp hk he
  | b2s x => simp only [evalK_eq, hg] at he; simp only [stepI]; rw [b2sX_eq]; exact effC_imp hk he
  | strish x => simp only [evalK_eq, hg] at he; simp only [stepI]; rw [strishX_eq]; exact effC_imp hk he
  | mkIface ty x => simp only [evalK_eq] at he; exact hk _ .no he
  | mkFunc f a b => simp only [evalLK_eq] at he; exact hk _ .no he
  | mkMap =>
    have := effC_imp (s := .ret (.mp n) (.push (.emap []))) (K := K) (c' := c') hk he
    rwa [hs] at this
  | mkSlice es bytes z a b => simp only [evalK_eq] at he; simp only [stepI]; rw [mkSliceX_eq, ← hs]; exact effC_imp hk he
  | slice es x lo hi mx =>
    simp only [evalK_eq] at he
    simp only [stepI]
    split at he
    · rename_i h1 h2 h3
      simp only [h1, h2, h3]
      exact pureC_imp hk hc (sliceE_h _ _ _ _ _ _) he
    · cases he
  | sliceStr x lo hi =>
    simp only [evalK_eq] at he
    simp only [stepI]
    split at he
    · rename_i h1 h2
      simp only [h1, h2]
      exact pureC_imp hk hc (sliceStrE_h _ _ _ _) he
    · cases he
  | s2a m x => simp only [evalK_eq] at he; exact pureC_imp hk hc (s2aE_h _ _ _) he
  | fieldAddr o x => simp only [evalK_eq] at he; exact pureC_imp hk hc (fieldAddrE_h _ _ _) he
  | field agg o m x => simp only [evalK_eq] at he; exact pureC_imp hk hc (fieldE_h _ _ _ _) he
  | indexAddr es x i => simp only [evalK_eq] at he; exact pureC_imp hk hc (indexAddrE_h _ _ _ _) he
  | indexAddrArr es m x i => simp only [evalK_eq] at he; exact pureC_imp hk hc (indexAddrArrE_h _ _ _ _ _) he
  | indexArr agg es m x i => simp only [evalK_eq] at he; exact pureC_imp hk hc (indexArrE_h _ _ _ _ _ _) he
  | indexStr x i => simp only [evalK_eq] at he; exact pureC_imp hk hc (indexStrE_h _ _ _) he
  | lookup ks z isA ok x y => simp only [evalK_eq, hg] at he; simp only [stepI]; rw [lookupX_eq]; exact effC_imp hk he
  | mapSet ks x y v => simp only [evalK_eq, hg] at he; simp only [stepI]; rw [mapSetX_eq]; exact effC_imp hk he
  | extract x i => simp only [evalK_eq] at he; exact pureC_imp hk hc (extractE_h _ _) he
  | call f args => simp only [evalLK_eq] at he; exact hc _ _ he
  | callv x args => simp only [evalK_eq, evalLK_eq] at he; exact easyC_imp hk hc (callvE_h _ _) he
  | invoke x nm cands args => simp only [evalK_eq, evalLK_eq] at he; exact easyC_imp hk hc (invokeE_h _ _ _) he
  | append es bytes x y => simp only [evalK_eq, hg] at he; simp only [stepI]; rw [appendX_eq, ← hs]; exact effC_imp hk he
  | len m x => simp only [evalK_eq, hg] at he; simp only [stepI]; rw [lenX_eq]; exact effC_imp hk he
  | copy es x y => simp only [evalK_eq, hg] at he; simp only [stepI]; rw [copyX_eq]; exact effC_imp hk he
  | minmax mx x xs => simp only [evalK_eq, evalLK_eq] at he; exact pureC_imp hk hc (minmaxE_h _ _ _ _) he
  | again d agg m x => simp only [evalK_eq, getK_eq, hg] at he; simp only [stepI]; rw [againX_eq]; exact effC_imp hk he
  | apart x y => simp only [evalK_eq] at he; exact easyC_imp hk hc (apartE_h _ _) he
  | panic x => simp only [evalK_eq] at he; exact easyC_imp hk hc (panicE_h _) he
  | tassert ty z isA ok x => simp only [evalK_eq] at he; exact easyC_imp hk hc (tassertE_h _ _ _ _ _) he
  | rngS x => simp only [evalK_eq] at he; simp only [stepI]; rw [rngSX_eq, ← hs]; exact effC_imp hk he
  | nxtS x => simp only [evalK_eq, hg] at he; simp only [stepI]; rw [nxtSX_eq]; exact effC_imp hk he
  | allocB e m z =>
    have := effC_imp (s := .ret (.ptr n 0) (.push (.blk (nbZ n e m (litL z))))) (K := K) (c' := c') hk he
    rwa [hs] at this
  | toU x => simp only [evalK_eq, hg] at he; simp only [stepI]; rw [toUX_eq]; exact effC_imp hk he
  | fromU okl x => simp only [evalK_eq, hg] at he; simp only [stepI]; rw [fromUX_eq]; exact effC_imp hk he
  | sdata x => simp only [evalK_eq, hg] at he; simp only [stepI]; rw [sdataX_eq]; exact effC_imp hk he
  | ustr x y => simp only [evalK_eq, hg] at he; simp only [stepI]; rw [ustrX_eq]; exact effC_imp hk he
  | same x => simp only [evalK_eq] at he; exact hk _ .no he
  | appendB x y => simp only [evalK_eq, hg] at he; simp only [stepI]; rw [appendBX_eq, ← hs]; exact effC_imp hk he
  | peq op el x y => simp only [evalK_eq] at he; exact easyC_imp hk hc (peqE_h _ _ _ _ _) he
  | boxB e m x => simp only [evalK_eq] at he; simp only [stepI]; rw [boxBX_eq, ← hs]; exact effC_imp hk he
  | ieq op il x y => simp only [evalK_eq] at he; exact easyC_imp hk hc (ieqE_h _ _ _ _ _) he
  | clr es z x => simp only [evalK_eq, hg] at he; simp only [stepI]; rw [clrX_eq]; exact effC_imp hk he
  | bad => cases he
end
end Go.Proofs.YtpgeonghlabnhaaGreatDoor.Em
