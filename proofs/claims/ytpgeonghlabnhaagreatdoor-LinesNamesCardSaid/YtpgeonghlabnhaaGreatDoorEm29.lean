/- Em29: closed runs anew, so that the kernel carries them out in little memory: the heap with its newest block first, alternatives that take nothing along, values written out once. Sound against Em22's run. No conditions beyond those written. -/
import Derived.Test.YtpgeonghlabnhaaGreatDoorEm22
set_option linter.unusedVariables false
set_option linter.unusedSimpArgs false
namespace Go.Proofs.YtpgeonghlabnhaaGreatDoor.Em
open Go
section
variable {β : Type}
/-- a list's n-th place, handed on -/
noncomputable def getK : List EV → Nat → (EV → Option β) → Option β :=
  @List.rec EV (fun _ => Nat → (EV → Option β) → Option β) (fun _ k => k undefE) (fun x _ ih n k => @Nat.rec (fun _ => Option β) (k x) (fun m _ => ih m k) n)
theorem getK_eq : ∀ (l : List EV) (n : Nat) (k : EV → Option β), getK l n k = k (getT l n)
  | [], _, _ => by simp only [getT]; rfl
  | x :: l, 0, k => rfl
  | x :: l, n + 1, k => getK_eq l n k
noncomputable def nthK : List EV → Nat → (EV → Option β) → Option β :=
  @List.rec EV (fun _ => Nat → (EV → Option β) → Option β) (fun _ k => none) (fun x _ ih n k => @Nat.rec (fun _ => Option β) (k x) (fun m _ => ih m k) n)
theorem nthK_eq : ∀ (l : List EV) (n : Nat) (k : EV → Option β), nthK l n k = match nthE l n with | some v => k v | none => none
  | [], _, _ => by simp only [nthE]; rfl
  | x :: l, 0, k => rfl
  | x :: l, n + 1, k => nthK_eq l n k
noncomputable def setK : List EV → Nat → EV → (List EV → Option β) → Option β :=
  @List.rec EV (fun _ => Nat → EV → (List EV → Option β) → Option β) (fun _ _ k => k [])
    (fun x l ih n v k => @Nat.rec (fun _ => Option β) (k (v :: l)) (fun m _ => ih m v (fun l => k (x :: l))) n)
theorem setK_eq : ∀ (l : List EV) (n : Nat) (v : EV) (k : List EV → Option β), setK l n v k = k (setT l n v)
  | [], _, _, _ => by simp only [setT]; rfl
  | x :: l, 0, v, k => rfl
  | x :: l, n + 1, v, k => setK_eq l n v (fun l => k (x :: l))
noncomputable def putK (t : List EV) (d : Option Nat) (v : EV) (k : List EV → Option β) : Option β :=
  @Option.rec Nat (fun _ => Option β) (k t) (fun d => setK t d v k) d
theorem putK_eq (t : List EV) (d : Option Nat) (v : EV) (k : List EV → Option β) : putK t d v k = k (putT t d v) := by
  cases d with
  | none => rfl
  | some d => exact setK_eq t d v k
noncomputable def getO : EH → Nat → (EO → Option β) → Option β :=
  @List.rec EO (fun _ => Nat → (EO → Option β) → Option β) (fun _ k => k .dead) (fun x _ ih n k => @Nat.rec (fun _ => Option β) (k x) (fun m _ => ih m k) n)
theorem getO_eq : ∀ (l : EH) (n : Nat) (k : EO → Option β), getO l n k = k (getH l n)
  | [], _, _ => by simp only [getH]; rfl
  | x :: l, 0, k => rfl
  | x :: l, n + 1, k => getO_eq l n k
noncomputable def setO : EH → Nat → EO → (EH → Option β) → Option β :=
  @List.rec EO (fun _ => Nat → EO → (EH → Option β) → Option β) (fun _ _ k => k [])
    (fun x l ih n v k => @Nat.rec (fun _ => Option β) (k (v :: l)) (fun m _ => ih m v (fun l => k (x :: l))) n)
theorem setO_eq : ∀ (l : EH) (n : Nat) (v : EO) (k : EH → Option β), setO l n v k = k (setH l n v)
  | [], _, _, _ => by simp only [setH]; rfl
  | x :: l, 0, v, k => rfl
  | x :: l, n + 1, v, k => setO_eq l n v (fun l => k (x :: l))
/-- a list's spine, written out -/
noncomputable def fS : List EV → (List EV → Option β) → Option β :=
  @List.rec EV (fun _ => (List EV → Option β) → Option β) (fun k => k []) (fun x _ ih k => ih (fun l => k (x :: l)))
theorem fS_eq : ∀ (l : List EV) (k : List EV → Option β), fS l k = k l
  | [], k => rfl
  | x :: l, k => fS_eq l (fun l => k (x :: l))
/-! values written out -/
noncomputable def gE : EV → (EV → Option β) → Option β :=
  @EV.rec (fun _ => (EV → Option β) → Option β) (fun _ => (List EV → Option β) → Option β)
    (fun v k => fV v fun v => k (.lit v))
    (fun b k => fB b fun b => k (.sb b))
    (fun i o k => fN i fun i => fN o fun o => k (.ptr i o))
    (fun i o k => fN i fun i => fN o fun o => k (.eptr i o))
    (fun es i o n c k => fN es fun es => fN i fun i => fN o fun o => fN n fun n => fC c fun c => k (.sl es i o n c))
    (fun i k => fN i fun i => k (.mp i))
    (fun c o _ k => fN o fun o => k (.iptr c o))
    (fun n cap c _ k => fN n fun n => fC cap fun cap => k (.isl n cap c))
    (fun f _ _ ia ib k => ia fun a => ib fun b => k (.fn f a b))
    (fun t _ ih k => ih fun e => k (.iface t e))
    (fun _ ih k => ih fun c => k (.agg c))
    (fun _ ih k => ih fun c => k (.tup c))
    (fun k => k .top)
    (fun i k => fN i fun i => k (.yl i))
    (fun i e n k => fN i fun i => fN e fun e => fN n fun n => k (.nb i e n))
    (fun k => k .nbuf)
    (fun k => k [])
    (fun _ _ ix il k => ix fun x => il fun l => k (x :: l))
noncomputable def gL : List EV → (List EV → Option β) → Option β :=
  @List.rec EV (fun _ => (List EV → Option β) → Option β) (fun k => k []) (fun x _ ih k => gE x fun x => ih (fun l => k (x :: l)))
theorem gE_aggs : ∀ (l : List EV), (∀ x ∈ l, ∀ k : EV → Option β, gE x k = k x) → ∀ k : EV → Option β, gE (.agg l) k = k (.agg l)
  | [], _, k => rfl
  | x :: l, h, k => by
    have e : gE (.agg (x :: l)) k = gE x fun y => gE (.agg l) fun e => match e with | .agg c => k (.agg (y :: c)) | _ => none := rfl
    rw [e, h x (by simp), gE_aggs l (fun y hy => h y (by simp [hy]))]
theorem gE_eq : ∀ (e : EV) (k : EV → Option β), gE e k = k e := by
  intro e
  induction e using EV.rec (motive_2 := fun l => ∀ x ∈ l, ∀ k : EV → Option β, gE x k = k x) with
  | lit v => intro k; have e : gE (.lit v) k = fV v fun v => k (.lit v) := rfl; rw [e, fV_eq]
  | sb b => intro k; have e : gE (.sb b) k = fB b fun v => k (.sb v) := rfl; rw [e, fB_eq]
  | ptr i o => intro k; have e : gE (.ptr i o) k = fN i fun i => fN o fun o => k (.ptr i o) := rfl; rw [e, fN_eq, fN_eq]
  | eptr i o => intro k; have e : gE (.eptr i o) k = fN i fun i => fN o fun o => k (.eptr i o) := rfl; rw [e, fN_eq, fN_eq]
  | sl a i o n c => intro k; have e : gE (.sl a i o n c) k = fN a fun es => fN i fun i => fN o fun o => fN n fun n => fC c fun c => k (.sl es i o n c) := rfl; rw [e, fN_eq, fN_eq, fN_eq, fN_eq, fC_eq]
  | mp i => intro k; have e : gE (.mp i) k = fN i fun i => k (.mp i) := rfl; rw [e, fN_eq]
  | iptr c o => intro k; have e : gE (.iptr c o) k = fN o fun o => k (.iptr c o) := rfl; rw [e, fN_eq]
  | isl n cap c => intro k; have e : gE (.isl n cap c) k = fN n fun n => fC cap fun cap => k (.isl n cap c) := rfl; rw [e, fN_eq, fC_eq]
  | fn f a b ha hb =>
    intro k
    have e : gE (.fn f a b) k = gE (.agg a) fun ea => match ea with | .agg a => gE (.agg b) (fun eb => match eb with | .agg b => k (.fn f a b) | _ => none) | _ => none := rfl
    rw [e, gE_aggs a ha]
    exact gE_aggs b hb _
  | iface t e ih => intro k; exact ih (fun e => k (.iface t e))
  | agg c h => intro k; exact gE_aggs c h k
  | tup c h =>
    intro k
    have e : gE (.tup c) k = gE (.agg c) fun ea => match ea with | .agg a => k (.tup a) | _ => none := rfl
    rw [e, gE_aggs c h]
  | top => intro k; rfl
  | yl i => intro k; have e : gE (.yl i) k = fN i fun i => k (.yl i) := rfl; rw [e, fN_eq]
  | nb i e0 n => intro k; have e : gE (.nb i e0 n) k = fN i fun i => fN e0 fun e0 => fN n fun n => k (.nb i e0 n) := rfl; rw [e, fN_eq, fN_eq, fN_eq]
  | nbuf => intro k; rfl
  | nil => rename_i h _; cases h
  | cons x l hx hl =>
    rename_i y hy k
    rcases List.mem_cons.1 hy with rfl | hy
    · exact hx k
    · exact hl y hy k
theorem gL_eq : ∀ (l : List EV) (k : List EV → Option β), gL l k = k l
  | [], k => rfl
  | x :: l, k => by
      have e : gL (x :: l) k = gE x fun x => gL l (fun l => k (x :: l)) := rfl
      rw [e, gE_eq x]
      exact gL_eq l _
noncomputable def gO (o : EO) (k : EO → Option β) : Option β :=
  @EO.rec (fun _ => (EO → Option β) → Option β) (fun k => k .dead) (fun c k => gL c fun c => k (.blk c)) (fun es k => fM es fun es => k (.emap es))
    (fun t ps a b st pd k => fS t fun t => fN st fun st => fD pd fun pd => k (.lp t ps a b st pd))
    (fun s k => fU s.data.toList fun l => k (.row ⟨l.toArray⟩)) (fun s p k => fN p fun p => k (.itr s p)) o k
theorem gO_eq (o : EO) (k : EO → Option β) : gO o k = k o := by
  cases o with
  | dead => rfl
  | blk c => exact gL_eq c _
  | emap es => exact fM_eq es _
  | lp t ps a b st pd =>
    have e : gO (.lp t ps a b st pd) k = fS t fun t => fN st fun st => fD pd fun pd => k (.lp t ps a b st pd) := rfl
    rw [e, fS_eq, fN_eq, fD_eq]
  | row s =>
    have e : gO (.row s) k = fU s.data.toList fun l => k (.row ⟨l.toArray⟩) := rfl
    rw [e, fU_eq]
  | itr s p =>
    have e : gO (.itr s p) k = fN p fun p => k (.itr s p) := rfl
    rw [e, fN_eq]
/-! operands, handed on -/
noncomputable def evalK : Operand → List (List EV) → List EV → (EV → Option β) → Option β :=
  @Operand.rec (fun _ => List (List EV) → List EV → (EV → Option β) → Option β)
    (fun i _ t k => getK t i k)
    (fun v _ _ k => match v with | .agg cs => gE (.agg (litL cs.toList)) k | v => k (.lit v))
    (fun g G t k => match G[g]? with | some c => k (.iptr c 0) | none => k (.lit (.pointer (some ⟨g, 0, none⟩))))
    (fun f _ _ k => k (.fn (.func f) [] []))
theorem evalK_eq (x : Operand) (G : List (List EV)) (t : List EV) (k : EV → Option β) : evalK x G t k = k (evalO G t x) := by
  cases x with
  | tmp i => exact getK_eq t i k
  | const v =>
    cases v with
    | agg cs => exact gE_eq (.agg (litL cs.toList)) k
    | _ => rfl
  | global g =>
    show (match G[g]? with | some c => k (.iptr c 0) | none => k (.lit (.pointer (some ⟨g, 0, none⟩)))) = _
    simp only [evalO]
    cases G[g]? <;> rfl
  | func f => rfl
noncomputable def evalLK : List Operand → List (List EV) → List EV → (List EV → Option β) → Option β :=
  @List.rec Operand (fun _ => List (List EV) → List EV → (List EV → Option β) → Option β) (fun _ _ k => k [])
    (fun x _ ih G t k => evalK x G t fun v => ih G t fun l => k (v :: l))
theorem evalLK_eq : ∀ (l : List Operand) (G : List (List EV)) (t : List EV) (k : List EV → Option β), evalLK l G t k = k (evalL G t l)
  | [], _, _, _ => rfl
  | x :: l, G, t, k => by
    show evalK x G t _ = _
    rw [evalK_eq]
    exact evalLK_eq l G t _
/-- parts laid into cells, handed on -/
noncomputable def fillK : List (Nat × Nat × Operand) → List (List EV) → List EV → List EV → (List EV → Option β) → Option β :=
  @List.rec (Nat × Nat × Operand) (fun _ => List (List EV) → List EV → List EV → (List EV → Option β) → Option β) (fun _ _ cs k => k cs)
    (fun p _ ih G t cs k => evalK p.2.2 G t fun v =>
      match lenL (cellsE v) == p.2.1 with
      | true => match allOne (cellsE v) with
        | true => match wrt cs p.1 (cellsE v) with
          | some r => ih G t r k
          | none => none
        | false => none
      | false => none)
theorem fillK_eq (G : List (List EV)) (t : List EV) : ∀ (l : List (Nat × Nat × Operand)) (cs : List EV) (k : List EV → Option β), fillK l G t cs k = match fillE G t cs l with | some c => k c | none => none
  | [], cs, k => by simp only [fillE]; rfl
  | (off, n, x) :: l, cs, k => by
    show evalK x G t _ = _
    rw [evalK_eq]
    simp only [fillE]
    cases h1 : lenL (cellsE (evalO G t x)) == n with
    | false => simp
    | true =>
      cases h2 : allOne (cellsE (evalO G t x)) with
      | false => simp
      | true =>
        simp only [if_true]
        cases h3 : wrt cs off (cellsE (evalO G t x)) with
        | none => rfl
        | some r => exact fillK_eq G t l r k
/-! outcomes -/
noncomputable def rSR : SR → (EV → EH → Option β) → (FuncId → List EV → Option β) → Option β :=
  @SR.rec (fun _ => (EV → EH → Option β) → (FuncId → List EV → Option β) → Option β) (fun _ _ => none) (fun v h k _ => k v h)
    (fun b _ ih k c => @Bool.rec (fun _ => Option β) none (ih k c) b)
    (fun c off n agg h k _ => match lookE kA c off n agg with | some v => k v h | none => none)
    (fun b v1 h1 v2 h2 k _ => @Bool.rec (fun _ => Option β) (k v2 h2) (k v1 h1) b)
    (fun o ok z h k _ => match o with | none => k (if ok then .tup [z, .lit (.bool false)] else z) h | some x => k (if ok then .tup [x, .lit (.bool true)] else x) h)
    (fun f args _ c => c f args)
    (fun v w h k _ => match eqE v w with | true => k undefE h | false => none)
    (fun c off n agg w h k _ => match lookE kA c off n agg with | some v => (match eqE v w with | true => k undefE h | false => none) | none => none)
theorem rSR_eq (k : EV → EH → Option β) (c : FuncId → List EV → Option β) : ∀ r : SR, rSR r k c = exSR kA k c r
  | .stuck => rfl
  | .ret v h => rfl
  | .need b r => by
    cases b with
    | true => exact rSR_eq k c r
    | false => rfl
  | .look .. => rfl
  | .br b .. => by cases b <;> rfl
  | .opt o .. => by cases o <;> rfl
  | .call .. => rfl
  | .same .. => rfl
  | .lookS .. => rfl
/-- a run's outcome goes over to another's -/
theorem exSR_imp {γ : Type} {Q : Option γ → Prop} {A : Ar} {k : EV → EH → Option β} {k' : EV → EH → Option γ} {c : FuncId → List EV → Option β} {c' : FuncId → List EV → Option γ} {r : β}
    (hk : ∀ v h, k v h = some r → Q (k' v h)) (hc : ∀ f a, c f a = some r → Q (c' f a)) : ∀ s : SR, exSR A k c s = some r → Q (exSR A k' c' s)
  | .stuck, h => by simp [exSR] at h
  | .ret v h', h => hk _ _ h
  | .need b s, h => by
    cases b with
    | true => exact exSR_imp hk hc s h
    | false => simp [exSR] at h
  | .look c off n agg h', h => by
    simp only [exSR] at h ⊢
    cases hl : lookE A c off n agg with
    | none => simp [hl] at h
    | some v => simp only [hl] at h; exact hk _ _ h
  | .br b v1 h1 v2 h2, h => by
    cases b with
    | true => exact hk _ _ h
    | false => exact hk _ _ h
  | .opt o ok z h', h => by
    cases o with
    | none => exact hk _ _ h
    | some x => exact hk _ _ h
  | .call f args, h => hc _ _ h
  | .same v w h', h => by
    simp only [exSR] at h ⊢
    cases he : eqE v w with
    | true => simp only [he] at h; exact hk _ _ h
    | false => simp [he] at h
  | .lookS c off n agg w h', h => by
    simp only [exSR] at h ⊢
    cases hl : lookE A c off n agg with
    | none => simp [hl] at h
    | some v =>
      simp only [hl] at h ⊢
      cases he : eqE v w with
      | true => simp only [he] at h; exact hk _ _ h
      | false => simp [he] at h
/-- no outcome but over this heap -/
def AllH (h : EH) : SR → Prop
  | .stuck => True
  | .ret _ h' => h' = h
  | .need _ r => AllH h r
  | .look _ _ _ _ h' => h' = h
  | .br _ _ h1 _ h2 => h1 = h ∧ h2 = h
  | .opt _ _ _ h' => h' = h
  | .call _ _ => True
  | .same _ _ h' => h' = h
  | .lookS _ _ _ _ _ h' => h' = h
theorem AllH.ex {A : Ar} {k k' : EV → EH → Option β} {c : FuncId → List EV → Option β} {h : EH} (hk : ∀ v, k v h = k' v h) : ∀ {s : SR}, AllH h s → exSR A k c s = exSR A k' c s
  | .stuck, _ => rfl
  | .ret v h', e => by cases e; exact hk v
  | .need b s, e => by
    cases b with
    | true => exact AllH.ex (s := s) hk e
    | false => rfl
  | .look .., e => by cases e; simp only [exSR, hk]
  | .br b .., ⟨e1, e2⟩ => by cases e1; cases e2; simp only [exSR, hk]
  | .opt o .., e => by cases e; simp only [exSR, hk]
  | .call .., _ => rfl
  | .same .., e => by cases e; simp only [exSR, hk]
  | .lookS .., e => by cases e; simp only [exSR, hk]
end
end Go.Proofs.YtpgeonghlabnhaaGreatDoor.Em
