/- Em7: operations on values alone, addresses, slices of what there is. No conditions beyond those written. -/
import Derived.Test.YtpgeonghlabnhaaGreatDoorEm6
set_option linter.unusedVariables false
set_option linter.unusedSimpArgs false
namespace Go.Proofs.YtpgeonghlabnhaaGreatDoor.Em
open Go
section
variable {I : Imm} {w : World} {ρ : Ren} {h : EH} {post : EV → EH → Prop} {pc : FuncId → List EV → Prop} {P : Program}
theorem Looks.res {s : Sem Value} (hs : HSim I w ρ h) (hl : Looks I w ρ h post P s) :
    Res I w ρ post pc ((s.run P w).andThen fun a w' => .ok (.value a) w') := by
  obtain ⟨e, v, hr, hp, hrep⟩ := hl
  exact Res.pure hs (by rw [hr]; rfl) hp hrep
theorem boolE_rep {e : EV} {v : Value} {b : Bool} (hb : boolE e = some b) (hr : Rep w I ρ e v) : v = .bool b := by
  cases hr with
  | lit _ v => cases v <;> simp_all [boolE]
  | sb _ c => simp_all [boolE]
  | _ => simp [boolE] at hb
/-- what nilE says of the model's value -/
def NilV (td : TypeDesc) (v : Value) (b : Bool) : Prop :=
  match td with
  | .slice _ => if b then ∃ n c, v = .slice none n c else ∃ a n c, v = .slice (some a) n c
  | .map _ _ => if b then v = .map none else ∃ r, v = .map (some r)
  | .func _ _ _ => if b then v = .nilFunc else ∃ f x y, v = .func f x y
  | .interface _ => if b then v = .nilIface else ∃ t u, v = .iface t u
  | .pointer _ => if b then v = .pointer none else ∃ a, v = .pointer (some a)
  | _ => False
theorem nilE_rep {td : TypeDesc} {e : EV} {v : Value} {b : Bool} (hn : nilE td e = some b) (hr : Rep w I ρ e v) : NilV td v b := by
  unfold nilE at hn
  split at hn <;> (try (cases hn; done)) <;> split at hn <;> (try (cases hn; done)) <;> cases hn <;> cases hr <;> simp [NilV]
theorem isl_some {e : TypeId} {n : Nat} {c : List EV} {v : Value} (hr : Rep w I ρ (.isl n none c) v) (hn : n ≠ 0) : NilV (.slice e) v false := by
  cases hr with
  | isl _ _ _ _ a k => exact ⟨a, n, k, rfl⟩
  | isln => exact absurd rfl hn
theorem equal_run {t : TypeId} {u v : Value} {r : Bool} (hq : ∀ n, (Op.equalIn (n + 1) t u v).run P w = .ok r w) : (Op.equal t u v).run P w = .ok r w := hq 9999
theorem equal_nil {td : TypeDesc} {t : TypeId} {u v : Value} {a b : Bool} (hu : P.underlying t = some td) (hx : NilV td u a) (hy : NilV td v b) (hab : a = true ∨ b = true) :
    (Op.equal t u v).run P w = .ok (a && b) w := by
  refine equal_run fun n => ?_
  cases td <;> simp only [NilV] at hx hy
  case slice e =>
    cases a <;> cases b <;> simp at hx hy hab <;> (try (obtain ⟨_, _, _, rfl⟩ := hx)) <;> (try (obtain ⟨_, _, _, rfl⟩ := hy)) <;> (try (obtain ⟨_, _, rfl⟩ := hx)) <;> (try (obtain ⟨_, _, rfl⟩ := hy)) <;>
      simp [Op.equalIn, underlying, hu]
  case map k e =>
    cases a <;> cases b <;> simp at hx hy hab <;> (try (obtain ⟨_, rfl⟩ := hx)) <;> (try (obtain ⟨_, rfl⟩ := hy)) <;> (try subst hx) <;> (try subst hy) <;>
      simp [Op.equalIn, underlying, hu]
  case func ps rs vr =>
    cases a <;> cases b <;> simp at hx hy hab <;> (try (obtain ⟨_, _, _, rfl⟩ := hx)) <;> (try (obtain ⟨_, _, _, rfl⟩ := hy)) <;> (try subst hx) <;> (try subst hy) <;>
      simp [Op.equalIn, underlying, hu]
  case interface ms =>
    cases a <;> cases b <;> simp at hx hy hab <;> (try (obtain ⟨_, _, rfl⟩ := hx)) <;> (try (obtain ⟨_, _, rfl⟩ := hy)) <;> (try subst hx) <;> (try subst hy) <;>
      simp [Op.equalIn, underlying, hu]
  case pointer e =>
    cases a <;> cases b <;> simp at hx hy hab <;> (try (obtain ⟨_, rfl⟩ := hx)) <;> (try (obtain ⟨_, rfl⟩ := hy)) <;> (try subst hx) <;> (try subst hy) <;>
      simp [Op.equalIn, underlying, hu]
theorem binOp_nil {td : TypeDesc} {t : TypeId} {u v : Value} {a b : Bool} (hx : NilV td u a) (hy : NilV td v b) :
    binOp .eql t u v = (do Pure.pure (.bool (← Op.equal t u v))) ∧ binOp .neq t u v = (do Pure.pure (.bool (!(← Op.equal t u v)))) := by
  cases td <;> simp only [NilV] at hx hy <;>
    cases a <;> cases b <;> simp at hx hy <;> (try (obtain ⟨_, _, _, rfl⟩ := hx)) <;> (try (obtain ⟨_, _, _, rfl⟩ := hy)) <;> (try (obtain ⟨_, _, rfl⟩ := hx)) <;> (try (obtain ⟨_, _, rfl⟩ := hy)) <;>
      (try (obtain ⟨_, rfl⟩ := hx)) <;> (try (obtain ⟨_, rfl⟩ := hy)) <;> (try subst hx) <;> (try subst hy) <;> exact ⟨rfl, rfl⟩
theorem eqGuard_nil {td : TypeDesc} {op : BinOp} {t : TypeId} {x y : Operand} {u v : Value} {a b : Bool} (hx : NilV td u a) (hy : NilV td v b)
    (hc : (∀ ms, td = .interface ms → (constO x || constO y) = true)) (hop : op = .eql ∨ op = .neq) : eqGuard op t x y u v = Pure.pure () := by
  cases td <;> simp only [NilV] at hx hy <;>
    cases a <;> cases b <;> simp at hx hy <;> (try (obtain ⟨_, _, _, rfl⟩ := hx)) <;> (try (obtain ⟨_, _, _, rfl⟩ := hy)) <;> (try (obtain ⟨_, _, rfl⟩ := hx)) <;> (try (obtain ⟨_, _, rfl⟩ := hy)) <;>
      (try (obtain ⟨_, rfl⟩ := hx)) <;> (try (obtain ⟨_, rfl⟩ := hy)) <;> (try subst hx) <;> (try subst hy) <;> (try (cases op <;> rfl))
  all_goals
    have hcc := hc _ rfl
    cases x <;> cases y <;> simp [constO] at hcc <;> rcases hop with rfl | rfl <;> rfl
theorem run_eqNil {op : BinOp} {td : TypeDesc} {t : TypeId} {x y : Operand} {u v : Value} {a b : Bool} (hu : P.underlying t = some td) (hx : NilV td u a) (hy : NilV td v b)
    (hc : (∀ ms, td = .interface ms → (constO x || constO y) = true)) (hab : a = true ∨ b = true) (hop : op = .eql ∨ op = .neq) :
    (do eqGuard op t x y u v; binOp op t u v : Sem Value).run P w = .ok (.bool (if op = .eql then a && b else !(a && b))) w := by
  rw [eqGuard_nil hx hy hc hop]
  rcases hop with rfl | rfl
  · simp [(binOp_nil hx hy).1, equal_nil hu hx hy hab]
  · simp [(binOp_nil hx hy).2, equal_nil hu hx hy hab]
theorem equal_bool {t : TypeId} {a b : Bool} (hu : P.underlying t = some .bool) : (Op.equal t (.bool a) (.bool b)).run P w = .ok (a == b) w :=
  equal_run fun n => by simp [Op.equalIn, underlying, hu]
theorem bin_sound {op : BinOp} {t : TypeId} {x y : Operand} {a b : EV} {u v : Value} {td : Option TypeDesc} (hu : P.underlying t = td)
    (hc : (∀ ms, td = some (.interface ms) → (constO x || constO y) = true)) (ha : Rep w I ρ a u) (hb : Rep w I ρ b v)
    (ok : SROK post pc (binE stdA op a b td h)) : Looks I w ρ h post P (do eqGuard op t x y u v; binOp op t u v) := by
  unfold binE at ok
  split at ok
  · -- integers
    rename_i k m k' n
    cases ha; cases hb
    have shl : ∀ op', op' = .shl ∨ op' = .shr → SROK post pc (.need (stdA.nn n) (.ret (.lit (.int k (stdA.sh op' k m n))) h)) →
        Looks I w ρ h post P (do eqGuard op' t x y (.int k m) (.int k' n); binOp op' t (.int k m) (.int k' n)) := by
      intro op' ho hok
      obtain ⟨h0, hp⟩ := hok
      have h0' : 0 ≤ n := by simpa [stdA] using h0
      refine ⟨_, .int k (stdA.sh op' k m n), ?_, hp, .lit _ _⟩
      rcases ho with rfl | rfl
      · simp [go_sem, Op.shift, stdA, Int.not_lt.2 h0']
      · simp [go_sem, Op.shift, stdA, Int.not_lt.2 h0']
    split at ok
    · exact shl .shl (.inl rfl) ok
    · exact shl .shr (.inr rfl) ok
    · split at ok
      case isFalse => exact ok.elim
      rename_i hk
      subst hk
      split at ok
      · obtain ⟨h0, hp⟩ := ok
        have h0' : n ≠ 0 := by simpa [stdA] using h0
        exact ⟨_, .int k (stdA.ib .quo k m n), by simp [go_sem, Op.intDiv, stdA, h0'], hp, .lit _ _⟩
      · obtain ⟨h0, hp⟩ := ok
        have h0' : n ≠ 0 := by simpa [stdA] using h0
        exact ⟨_, .int k (stdA.ib .rem k m n), by simp [go_sem, Op.intDiv, stdA, h0'], hp, .lit _ _⟩
      · exact ⟨_, .int k (stdA.ib .add k m n), by simp [go_sem, Op.intArith, stdA], ok, .lit _ _⟩
      · exact ⟨_, .int k (stdA.ib .sub k m n), by simp [go_sem, Op.intArith, stdA], ok, .lit _ _⟩
      · exact ⟨_, .int k (stdA.ib .mul k m n), by simp [go_sem, Op.intArith, stdA], ok, .lit _ _⟩
      · exact ⟨_, .int k (stdA.ib .and k m n), by simp [binOp, Op.intBits, stdA, eqGuard_at_int], ok, .lit _ _⟩
      · exact ⟨_, .int k (stdA.ib .or k m n), by simp [binOp, Op.intBits, stdA, eqGuard_at_int], ok, .lit _ _⟩
      · exact ⟨_, .int k (stdA.ib .xor k m n), by simp [binOp, Op.intBits, stdA, eqGuard_at_int], ok, .lit _ _⟩
      · exact ⟨_, .int k (stdA.ib .andNot k m n), by simp [binOp, Op.intBits, stdA, eqGuard_at_int], ok, .lit _ _⟩
      all_goals first | (exact ⟨_, .bool (stdA.ic _ m n), by simp [go_sem, stdA, eqGuard_at_int], ok, .sb _ _⟩) | exact ok.elim
  · -- strings
    rename_i s1 s2
    cases ha; cases hb
    split at ok
    · obtain ⟨h0, hp⟩ := ok
      have h0' : s1.size + s2.size ≤ 9223372036854775807 := by simpa [stdA] using h0
      refine ⟨_, .string (stdA.cat s1 s2), ?_, hp, .lit _ _⟩
      have hlt : ¬ (((s1.size + s2.size : Nat) : Int) > IntKind.i64.max) := by simp; omega
      simp only [Sem.run_bind, eqGuard_at_string, Sem.run_pure, Result.andThen_ok, binOp, Op.stringOp]
      rw [if_neg hlt]; rfl
    all_goals first | (exact ⟨_, .bool (stdA.ss _ s1 s2), by simp [binOp, Op.stringOp, stdA, eqGuard_at_string], ok, .sb _ _⟩) | exact ok.elim
  · -- others
    rename_i a' b' hni hns
    split at ok
    · -- bool
      split at ok
      · rename_i p q hp hq
        have e1 := boolE_rep hp ha; have e2 := boolE_rep hq hb
        subst e1; subst e2
        have hb1 : binOp .eql t (.bool p) (.bool q) = (do Pure.pure (.bool (← Op.equal t (.bool p) (.bool q)))) := rfl
        exact ⟨_, .bool (stdA.beq p q), by simp [hb1, equal_bool hu, stdA, eqGuard_at_bool], ok, .sb _ _⟩
      · rename_i p q hp hq
        have e1 := boolE_rep hp ha; have e2 := boolE_rep hq hb
        subst e1; subst e2
        have hb1 : binOp .neq t (.bool p) (.bool q) = (do Pure.pure (.bool (!(← Op.equal t (.bool p) (.bool q))))) := rfl
        exact ⟨_, .bool (stdA.bnot (stdA.beq p q)), by simp [hb1, equal_bool hu, stdA, eqGuard_at_bool], ok, .sb _ _⟩
      · exact ok.elim
    · rename_i td' hnb
      unfold eqNil at ok
      have fin : ∀ (p q : Bool), nilE td' a = some p → nilE td' b = some q → (p = true ∨ q = true) → (op = .eql ∨ op = .neq) →
          post (.lit (.bool (if op = .eql then p && q else !(p && q)))) h → Looks I w ρ h post P (do eqGuard op t x y u v; binOp op t u v) := by
        intro p q hp hq hpq hop hpost
        exact ⟨_, _, run_eqNil hu (nilE_rep hp ha) (nilE_rep hq hb) (fun ms he => hc ms (by rw [he])) hpq hop, hpost, .lit _ _⟩
      have fin2 : ∀ (p q : Bool), NilV td' u p → nilE td' b = some q → (p = true ∨ q = true) → (op = .eql ∨ op = .neq) →
          post (.lit (.bool (if op = .eql then p && q else !(p && q)))) h → Looks I w ρ h post P (do eqGuard op t x y u v; binOp op t u v) := by
        intro p q hp hq hpq hop hpost
        exact ⟨_, _, run_eqNil hu hp (nilE_rep hq hb) (fun ms he => hc ms (by rw [he])) hpq hop, hpost, .lit _ _⟩
      split at ok
      · rename_i q hp hq; exact fin true q hp hq (.inl rfl) (.inl rfl) (by simpa [SROK] using ok)
      · rename_i hp hq; exact fin false true hp hq (.inr rfl) (.inl rfl) (by simpa [SROK] using ok)
      · rename_i hp hq; exact fin true true hp hq (.inl rfl) (.inr rfl) (by simpa [SROK] using ok)
      · rename_i hp hq; exact fin true false hp hq (.inl rfl) (.inr rfl) (by simpa [SROK] using ok)
      · rename_i hp hq; exact fin false true hp hq (.inr rfl) (.inr rfl) (by simpa [SROK] using ok)
      · rename_i hp hq
        split at ok
        · rename_i e n c
          obtain ⟨h0, hpost⟩ := ok
          exact fin2 false true (isl_some ha (by simpa [stdA] using h0)) hq (.inr rfl) (.inl rfl) (by simpa [SROK] using hpost)
        · exact ok.elim
      · rename_i hp hq
        split at ok
        · rename_i e n c
          obtain ⟨h0, hpost⟩ := ok
          exact fin2 false true (isl_some ha (by simpa [stdA] using h0)) hq (.inr rfl) (.inr rfl) (by simpa [SROK] using hpost)
        · exact ok.elim
      · exact ok.elim
    · exact ok.elim
theorem un_sound {op : UnOp} {a : EV} {u : Value} (ha : Rep w I ρ a u) (ok : SROK post pc (unE stdA op a h)) : Looks I w ρ h post P (Op.unary op u) := by
  unfold unE at ok
  split at ok
  · rename_i k n; cases ha; exact ⟨_, .int k (stdA.ib .sub k 0 n), by simp [Op.unary, Op.intArith, stdA], ok, .lit _ _⟩
  · rename_i k n; cases ha; exact ⟨_, .int k (stdA.xr k n), by simp [Op.unary, Op.intBits, stdA], ok, .lit _ _⟩
  · cases ha; exact ⟨_, .bool false, by simp [Op.unary], ok, .lit _ _⟩
  · cases ha; exact ⟨_, .bool true, by simp [Op.unary], ok, .lit _ _⟩
  · rename_i b; cases ha; exact ⟨_, .bool (stdA.bnot b), by simp [Op.unary, stdA], ok, .sb _ _⟩
  · exact ok.elim
theorem conv_sound {k k0 : IntKind} {s d : TypeId} {a : EV} {u : Value} (h1 : P.underlying s = some (.int k0)) (h2 : P.underlying d = some (.int k)) (ha : Rep w I ρ a u)
    (ok : SROK post pc (convE stdA k a h)) : Looks I w ρ h post P (convert s d u) := by
  unfold convE at ok
  split at ok
  · rename_i k' n; cases ha
    exact ⟨_, .int k (stdA.wr k n), by simp [convert, underlying, h1, h2, Conv.intToInt, stdA], ok, .lit _ _⟩
  · exact ok.elim
theorem nilCheck_sound {a : EV} {u : Value} (hs : HSim I w ρ h) (ha : Rep w I ρ a u) (ok : SROK post pc (nilCheckE a h)) {x : Operand} {ev : Operand → Value} (hx : ev x = u) {o : Oper} (ho : o.op = .nilCheck x) :
    Res I w ρ post pc ((execOp ev o).run P w) := by
  have key : (execOp ev o).run P w = .ok (.value u) w ∧ ∃ e, post e h ∧ Rep w I ρ e u := by
    unfold nilCheckE at ok
    simp only [execOp, ho, hx]
    have ha0 := ha
    split at ok
    · cases ha; exact ⟨rfl, _, ok, ha0⟩
    · cases ha; exact ⟨rfl, _, ok, ha0⟩
    · cases ha; exact ⟨rfl, _, ok, ha0⟩
    · cases ha; exact ⟨rfl, _, ok, ha0⟩
    · exact ok.elim
  obtain ⟨hr, e, hp, hrep⟩ := key
  exact Res.pure hs hr hp hrep
theorem part_sound {t : TypeId} {agg : Bool} {off n : Nat} {c cs : List EV} {us : Array Value} {e : EV} (ha : aggP P t = some agg) (hsz : szP P t = some n)
    (hlen : cs.length = n) (htk : (c.drop off).take n = cs) (hmk : mkV agg cs = some e) (hr : RepL w I ρ c us.toList) :
    ∃ v, (part t us off).run P w = .ok v w ∧ Rep w I ρ e v := by
  have hul := hr.length
  have hcl : off + n ≤ c.length ∨ n = 0 := by
    have := congrArg List.length htk
    simp [hlen] at this; omega
  have hcut : RepL w I ρ cs (us.extract off (off + n)).toList := by
    rw [Array.toList_extract, ← htk]
    have := (hr.drop off).take n
    simpa [List.extract, Nat.add_sub_cancel_left] using this
  cases agg with
  | true =>
    simp [mkV] at hmk; subst hmk
    exact ⟨_, by simp [part, run_aggP ha, run_szP hsz], agg_of_list hcut⟩
  | false =>
    match cs, hmk, hlen with
    | [x], hmk, hlen =>
      simp [mkV] at hmk; subst hmk
      simp at hlen
      subst hlen
      have hx : c[off]? = some x := by
        have := take_drop_get htk (j := 0) (x := x) rfl
        simpa using this
      have hlt : off < us.size := by
        have := (List.getElem?_eq_some_iff.1 hx).1
        simp at hul; omega
      have hu : us[off]? = some us[off] := by simp [hlt]
      exact ⟨us[off], by simp [part, run_aggP ha, hu], hr.at off x _ hx (by simp [hlt])⟩
theorem agg_list {c : List EV} {v : Value} (hr : Rep w I ρ (.agg c) v) : ∃ us, v = .agg us ∧ RepL w I ρ c us.toList := by
  cases hr with
  | agg _ _ us hl hc => exact ⟨us, rfl, RepL.mk (by simpa using hl) fun j x u hx hu => hc j x u hx (by simpa using hu)⟩
theorem field_sound {t : TypeId} {agg : Bool} {n f : Nat} {fs : Array Field} {fl : Field} {a : EV} {u : Value} (hu : P.underlying t = some (.struct fs)) (hf : fs[f]? = some fl)
    (ha : aggP P fl.type = some agg) (hsz : szP P fl.type = some n) (hr : Rep w I ρ a u) (ok : SROK post pc (fieldE agg fl.offset n a h)) :
    Looks I w ρ h post P (Instr.field t u f) := by
  unfold fieldE at ok
  split at ok
  · rename_i c
    obtain ⟨us, rfl, hrl⟩ := agg_list hr
    split at ok
    · rename_i cs hcs
      split at ok
      · rename_i e he
        obtain ⟨q1, q2⟩ := rd_spec c fl.offset n cs hcs
        obtain ⟨v, hv, hrep⟩ := part_sound ha hsz q1 q2 he hrl
        exact ⟨e, v, by simp [Instr.field, underlying, hu, hf, asAgg, hv], ok, hrep⟩
      · exact ok.elim
    · exact ok.elim
  · exact ok.elim
theorem fieldAddr_sound {s : TypeId} {n f : Nat} {fs : Array Field} {fl : Field} {a : EV} {u : Value} (hu : P.underlying s = some (.struct fs)) (hf : fs[f]? = some fl)
    (hsz : szP P fl.type = some n) (hn : n ≠ 0) (hr : Rep w I ρ a u) (ok : SROK post pc (fieldAddrE stdA fl.offset a h)) : Looks I w ρ h post P (Instr.fieldAt s u f) := by
  have run : ∀ (b o : Nat), (Instr.fieldAt s (.pointer (some ⟨b, o, none⟩)) f).run P w = .ok (.pointer (some ⟨b, o + fl.offset, none⟩)) w := by
    intro b o
    simp [Instr.fieldAt, underlying, hu, hf, Instr.sureAddr, fieldPlace, run_szP hsz, hn, add_none]
  unfold fieldAddrE at ok
  split at ok
  · rename_i id off; cases hr with
    | ptr _ _ _ b o hb => exact ⟨_, _, run _ _, ok, by rw [Nat.add_assoc]; exact .ptr _ _ _ b o hb⟩
  · rename_i id off; cases hr with
    | eptr _ _ _ b o hb => exact ⟨_, _, run _ _, ok, by rw [Nat.add_assoc]; exact .eptr _ _ _ b o hb⟩
  · rename_i c off; cases hr with
    | iptr _ _ _ b o vs hb hc hi => exact ⟨_, _, run _ _, ok, by rw [Nat.add_assoc]; exact .iptr _ _ _ b o vs hb hc hi⟩
  · exact ok.elim
theorem addr_eta {a : Addr} (hs : a.spot = none) : a = ⟨a.block, a.off, none⟩ := by
  cases a; simp_all
theorem indexAddr_sound {t e : TypeId} {es : Nat} {a i : EV} {u v : Value} (hu : P.underlying t = some (.slice e)) (hsz : szP P e = some es) (hn : es ≠ 0)
    (hr : Rep w I ρ a u) (hi : Rep w I ρ i v) (ok : SROK post pc (indexAddrE stdA es a i h)) : Looks I w ρ h post P (Instr.indexAt t u v) := by
  unfold indexAddrE at ok
  split at ok
  · rename_i k n
    cases hi
    split at ok
    · rename_i len cap c
      cases hr with
      | isln _ _ =>
        obtain ⟨hin, _⟩ := ok
        have hin' : 0 ≤ n ∧ n < 0 := by simpa [stdA] using hin
        omega
      | isl _ _ _ _ ad k' vs hcap hsp hc hv =>
        obtain ⟨hin, hp⟩ := ok
        have hin' : 0 ≤ n ∧ n < len := by simpa [stdA] using hin
        have hk0 : k' ≠ 0 := by have := hcap.1; omega
        have hadd : ad.add (n.toNat * es) = ⟨ad.block, ad.off + n.toNat * es, none⟩ := by
          conv => lhs; rw [addr_eta (hsp hk0)]
          exact add_none _ _ _
        refine ⟨_, .pointer (some ⟨ad.block, ad.off + n.toNat * es, none⟩), ?_, hp, ?_⟩
        · simp [Instr.indexAt, asIntOf, underlying, hu, hin', run_szP hsz, hadd]
        · have := Rep.iptr (w := w) (I := I) ρ c (n.toNat * es) ad.block ad.off vs (hc hk0).1 (hc hk0).2 (hv hk0)
          simpa [stdA] using this
    · rename_i es' id off len cap
      split at ok
      case isFalse => exact ok.elim
      rename_i hes
      subst hes
      cases hr with
      | sl _ _ _ _ _ _ ad k' b o hb hcap hsp hf =>
        obtain ⟨hin, hp⟩ := ok
        have hin' : 0 ≤ n ∧ n < len := by simpa [stdA] using hin
        have hk0 : k' ≠ 0 := by have := hcap.1; omega
        obtain ⟨rfl, hfit⟩ := hf hk0
        refine ⟨_, .pointer (some ⟨b, o + (off + n.toNat * es'), none⟩), ?_, hp, ?_⟩
        · simp [Instr.indexAt, asIntOf, underlying, hu, hin', run_szP hsz, add_none, Nat.add_assoc]
        · exact .eptr _ _ _ b o hb
    · exact ok.elim
  · exact ok.elim
theorem indexAddrArr_sound {t e : TypeId} {es len : Nat} {a i : EV} {u v : Value} (hu : P.underlying t = some (.array len e)) (hsz : szP P e = some es)
    (hr : Rep w I ρ a u) (hi : Rep w I ρ i v) (ok : SROK post pc (indexAddrArrE stdA es len a i h)) : Looks I w ρ h post P (Instr.indexAt t u v) := by
  have run : ∀ (k : IntKind) (n : Int) (b o : Nat), 0 ≤ n ∧ n < len → (Instr.indexAt t (.pointer (some ⟨b, o, none⟩)) (.int k n)).run P w = .ok (.pointer (some ⟨b, o + n.toNat * es, none⟩)) w := by
    intro k n b o hin
    simp [Instr.indexAt, asIntOf, underlying, hu, hin, run_szP hsz, add_none, Instr.sureAddr]
  unfold indexAddrArrE at ok
  split at ok
  · rename_i k n
    cases hi
    split at ok
    · rename_i id off; cases hr with
      | ptr _ _ _ b o hb =>
        exact ⟨_, _, run k n b _ (by simpa [stdA] using ok.1), ok.2, by rw [Nat.add_assoc]; exact .eptr _ _ _ b o hb⟩
    · rename_i id off; cases hr with
      | eptr _ _ _ b o hb =>
        exact ⟨_, _, run k n b _ (by simpa [stdA] using ok.1), ok.2, by rw [Nat.add_assoc]; exact .eptr _ _ _ b o hb⟩
    · rename_i c off; cases hr with
      | iptr _ _ _ b o vs hb hc hv =>
        exact ⟨_, _, run k n b _ (by simpa [stdA] using ok.1), ok.2, by rw [Nat.add_assoc]; exact .iptr _ _ _ b o vs hb hc hv⟩
    · exact ok.elim
  · exact ok.elim
theorem indexArr_sound {t e : TypeId} {agg : Bool} {es len : Nat} {a i : EV} {u v : Value} (hu : P.underlying t = some (.array len e)) (hag : aggP P e = some agg) (hsz : szP P e = some es)
    (hr : Rep w I ρ a u) (hi : Rep w I ρ i v) (ok : SROK post pc (indexArrE stdA agg es len a i h)) : Looks I w ρ h post P (Instr.index t u v) := by
  unfold indexArrE at ok
  split at ok
  · rename_i k n c
    cases hi
    obtain ⟨us, rfl, hrl⟩ := agg_list hr
    obtain ⟨hin, cs, x, q1, q2, q3, hp⟩ := ok
    have hin' : 0 ≤ n ∧ n < len := by simpa [stdA] using hin
    have q2' : (c.drop (n.toNat * es)).take es = cs := by simpa [stdA] using q2
    obtain ⟨v, hv, hrep⟩ := part_sound hag hsz q1 q2' q3 hrl
    exact ⟨x, v, by simp [Instr.index, asIntOf, underlying, hu, hin', run_szP hsz, hv], hp, hrep⟩
  · exact ok.elim
theorem indexStr_sound {t : TypeId} {a i : EV} {u v : Value} (hu : P.underlying t = some .string)
    (hr : Rep w I ρ a u) (hi : Rep w I ρ i v) (ok : SROK post pc (indexStrE stdA a i h)) : Looks I w ρ h post P (Instr.index t u v) := by
  unfold indexStrE at ok
  split at ok
  · rename_i k n s
    cases hi; cases hr
    obtain ⟨hin, hp⟩ := ok
    have hin' : 0 ≤ n ∧ n < s.size := by simpa [stdA] using hin
    have hlt : n.toNat < s.size := by omega
    refine ⟨_, .int .u8 (stdA.bat s (stdA.tn n)), ?_, hp, .lit _ _⟩
    have hg : s[n.toNat]? = some s[n.toNat] := by simp [hlt]
    have hd : s.data[n.toNat]? = some s[n.toNat] := by
      rw [Array.getElem?_eq_getElem (by simpa using hlt)]
      rfl
    simp [Instr.index, asIntOf, underlying, hu, hin'.1, hg, stdA, hd]
  · exact ok.elim
theorem extract_sound {a : EV} {u : Value} {i : Nat} (hr : Rep w I ρ a u) (ok : SROK post pc (extractE a i h)) : Looks I w ρ h post P (Instr.extract u i) := by
  unfold extractE at ok
  split at ok
  · rename_i c
    cases hr with
    | tup _ _ us hl hc =>
      split at ok
      · rename_i x hx
        have hx' : c[i]? = some x := by
          clear hl hc ok
          induction c generalizing i with
          | nil => simp [nthE] at hx
          | cons y l ih => cases i with
            | zero => simpa [nthE] using hx
            | succ i => simpa using ih (by simpa [nthE] using hx)
        have hlt : i < us.size := by rw [← hl]; exact (List.getElem?_eq_some_iff.1 hx').1
        have hu : us[i]? = some us[i] := by simp [hlt]
        exact ⟨x, us[i], by simp [Instr.extract, hu], ok, hc i x _ hx' hu⟩
      · exact ok.elim
  · exact ok.elim
theorem mkIface_sound {t : TypeId} {a : EV} {u : Value} {d : TypeDesc} (hd : P.underlying t = some d) (hn : ∀ ms, d ≠ .interface ms) (hr : Rep w I ρ a u) (hp : post (.iface t a) h) :
    Looks I w ρ h post P (Instr.makeInterface t u) := by
  refine ⟨_, .iface t u, ?_, hp, .iface _ _ _ _ hr⟩
  cases d <;> first | (exact absurd rfl (hn _)) | simp [Instr.makeInterface, underlying, hd]
end
end Go.Proofs.YtpgeonghlabnhaaGreatDoor.Em
