/- YtmckingimnhoaaaGreatDoorMg: the texts Ct19, Ct20, Ct22, Ct23a, Ct23b, Ct23c, Ct23d, Ct24, Ct21, brought together. No conditions. -/
import Derived.Test.YtmckingimnhoaaaGreatDoorMf
set_option linter.unusedVariables false
set_option linter.unusedSimpArgs false
namespace Go.Proofs.YtmckingimnhoaaaGreatDoor.Stats
open Go Go.Proofs.YtmckingimnhoaaaGreatDoor Go.Proofs.YtmckingimnhoaaaGreatDoor.Em
-- emaX: s_bat
theorem pf_step {l : List Fld} {z : Nat} (h : z < l.length) : cellsPF ((l.take (z + 1)).map plF) = cellsPF ((l.take z).map plF) ++ (plF (l.getD z fld0)).cells := by
  rw [List.take_add_one, List.map_append, cellsPF_app, List.getD_eq_getElem?_getD, List.getElem?_eq_getElem h]
  simp [cellsPF]
theorem calcPlain_ok (f : Fld) (hf : okF f) (hm : mayF f) (h : EH) : Tri Tryz.prog gs 21 [.agg (cellsF f)] h fun v h' => v = .agg (plF f).cells ∧ h' = h := by
  obtain ⟨_, h1, h2⟩ := plF_ok hf hm
  have := plainX_ok f (plF f).g (plF f).nul (mayF_all hm) h1 h
  rw [plE_eq] at this
  rw [← h2] at this
  exact this
theorem Up.agg {l m : List EV} (h : l.length = m.length) (k : ∀ (j : Nat) (x y : EV), l[j]? = some x → m[j]? = some y → Up x y) : Up (.agg l) (.agg m) := fun w I ρ cv hr => by
  cases hr with
  | agg _ c vs hl hc =>
    refine .agg _ _ _ (by omega) fun j x v he hv => ?_
    have hj : j < l.length := by
      have := (List.getElem?_eq_some_iff.1 he).1
      omega
    exact k j _ x (List.getElem?_eq_getElem hj) he _ _ _ _ (hc j _ v (List.getElem?_eq_getElem hj) hv)
theorem Up.lb (b : Bool) : Up (.sb b) (.lit (.bool b)) := fun w I ρ cv h => by cases h; exact .lit _ _
theorem Up.aggB {a c d e f g : EV} (b : Bool) : Up (.agg [a, .sb b, c, d, e, f, g]) (.agg [a, .lit (.bool b), c, d, e, f, g]) := Up.agg rfl fun j x y hx hy => by
  match j, hx, hy with
  | 0, hx, hy => simp at hx hy; subst hx; subst hy; exact Up.refl _
  | 1, hx, hy => simp at hx hy; subst hx; subst hy; exact Up.lb b
  | 2, hx, hy => simp at hx hy; subst hx; subst hy; exact Up.refl _
  | 3, hx, hy => simp at hx hy; subst hx; subst hy; exact Up.refl _
  | 4, hx, hy => simp at hx hy; subst hx; subst hy; exact Up.refl _
  | 5, hx, hy => simp at hx hy; subst hx; subst hy; exact Up.refl _
  | 6, hx, hy => simp at hx hy; subst hx; subst hy; exact Up.refl _
theorem Up.tup3 {a b c a' b' c' : EV} (h : Up a a') (k : Up b b') (m : Up c c') : Up (.tup [a, b, c]) (.tup [a', b', c']) := Up.tup rfl fun j x y hx hy => by
  match j, hx, hy with
  | 0, hx, hy => simp at hx hy; subst hx; subst hy; exact h
  | 1, hx, hy => simp at hx hy; subst hx; subst hy; exact k
  | 2, hx, hy => simp at hx hy; subst hx; subst hy; exact m
def TypeV (r : Fld × Int) (v : EV) : Prop := v = .tup [.agg (cellsF r.1), .top, .lit (.int .i64 r.2)]
theorem TypeV.cl {r : Fld × Int} {v : EV} (h : TypeV r v) : clE v = true := by
  rw [show v = _ from h, cellsF_eq]; rfl
theorem FinR.ty0 {rs : List ER} {s : St} {r : Fld × Int} {y : EV} {e : Int} (hv : retE rs s.t s.h = some (.tup [.agg [.lit (.string ⟨#[]⟩), .lit (.bool false), .lit (.int .i64 0), .lit (.int .i64 0), .lit (.int .i64 0), .lit (.int .i64 0), .lit (.slice none 0 0)], y, .lit (.int .i64 e)])) (hr : r = (fld0, e)) :
    FinR rs (fun v _ => ∃ v', TypeV r v' ∧ Up v v') s := by
  subst hr
  exact ⟨_, hv, _, rfl, Up.tup3 (Up.agg7 (Up.nil _)) (Up.top _) (Up.refl _)⟩
theorem FinR.tyv {rs : List ER} {s : St} {r : Fld × Int} {nm : ByteArray} {b : Bool} {k w i x : Int} {n : Nat} {c : List EV} {y : EV} {t : Fld} (hv : retE rs s.t s.h = some (.tup [.agg [.lit (.string nm), .lit (.bool b), .lit (.int .i64 k), .lit (.int .i64 w), .lit (.int .i64 i), .lit (.int .i64 x), .isl n none c], y, .lit (.int .i64 0)]))
    (hr : r = (named nm (b, t), 0)) (ht : tyC t = [.lit (.int .i64 k), .lit (.int .i64 w), .lit (.int .i64 i), .lit (.int .i64 x), .isl n none c]) : FinR rs (fun v _ => ∃ v', TypeV r v' ∧ Up v v') s := by
  subst hr
  refine ⟨_, hv, _, rfl, Up.tup3 ?_ (Up.top _) (Up.refl _)⟩
  rw [named_cells, ht]
  exact Up.refl _
open Classical in
noncomputable def typeX (N : Int) (pT pU : Prop) (tT : Fld) (l : List Fld) : Fld × Int :=
  if N = 0 ∨ (l.length : Int) ≠ N then (fld0, 1) else
  if ∃ f ∈ l, ¬ mayF f then (fld0, 5) else
  if pT then (if mayF (named (l.getD 0 fld0).nm (decide pU, tT)) then (named (l.getD 0 fld0).nm (decide pU, tT), 0) else (fld0, 5)) else (fld0, 5)
theorem typeX_arg {N : Int} {pT pU : Prop} {tT : Fld} {l : List Fld} (h : N = 0 ∨ (l.length : Int) ≠ N) : typeX N pT pU tT l = (fld0, 1) := if_pos h
theorem typeX_bad {N : Int} {pT pU : Prop} {tT : Fld} {l : List Fld} (h : ¬ (N = 0 ∨ (l.length : Int) ≠ N)) (hb : ∃ f ∈ l, ¬ mayF f) : typeX N pT pU tT l = (fld0, 5) := by
  unfold typeX; rw [if_neg h, if_pos hb]
theorem typeX_no {N : Int} {pT pU : Prop} {tT : Fld} {l : List Fld} (h : ¬ (N = 0 ∨ (l.length : Int) ≠ N)) (hb : ∀ f ∈ l, mayF f) (hp : ¬ pT) : typeX N pT pU tT l = (fld0, 5) := by
  unfold typeX; rw [if_neg h, if_neg (fun ⟨f, h1, h2⟩ => h2 (hb f h1)), if_neg hp]
theorem typeX_yes {N : Int} {pT pU : Prop} {tT : Fld} {l : List Fld} {b : Bool} (h : ¬ (N = 0 ∨ (l.length : Int) ≠ N)) (hb : ∀ f ∈ l, mayF f) (hp : pT) (hu : b = true ↔ pU) (hm : mayF (named (l.getD 0 fld0).nm (b, tT))) :
    typeX N pT pU tT l = (named (l.getD 0 fld0).nm (b, tT), 0) := by
  have : @decide pU (Classical.propDecidable pU) = b := by cases b <;> simp_all
  unfold typeX; rw [if_neg h, if_neg (fun ⟨f, h1, h2⟩ => h2 (hb f h1)), if_pos hp, this, if_pos hm]
theorem typeX_not {N : Int} {pT pU : Prop} {tT : Fld} {l : List Fld} {b : Bool} (h : ¬ (N = 0 ∨ (l.length : Int) ≠ N)) (hb : ∀ f ∈ l, mayF f) (hp : pT) (hu : b = true ↔ pU) (hm : ¬ mayF (named (l.getD 0 fld0).nm (b, tT))) :
    typeX N pT pU tT l = (fld0, 5) := by
  have : @decide pU (Classical.propDecidable pU) = b := by cases b <;> simp_all
  unfold typeX; rw [if_neg h, if_neg (fun ⟨f, h1, h2⟩ => h2 (hb f h1)), if_pos hp, this, if_neg hm]
theorem all_getD {l : List Fld} {q : Fld → Prop} (h : ∀ j, j < l.length → q (l.getD j fld0)) : ∀ f ∈ l, q f := fun f hf => by
  obtain ⟨j, hj, rfl⟩ := List.getElem_of_mem hf
  have := h j hj
  rwa [List.getD_eq_getElem?_getD, List.getElem?_eq_getElem hj] at this
theorem copiedS_ok (t : Fld) (ht : smallF t) (nm : ByteArray) (b : Bool) (k w i x : Int) (n : Nat) (c : List EV) (he : tyC t = [.lit (.int .i64 k), .lit (.int .i64 w), .lit (.int .i64 i), .lit (.int .i64 x), .isl n none c]) (h : EH) :
    Tri Tryz.prog gs 22 [.agg [.lit (.string nm), .sb b, .lit (.int .i64 k), .lit (.int .i64 w), .lit (.int .i64 i), .lit (.int .i64 x), .isl n none c]] h
      fun v h' => v = .agg [.lit (.string nm), .lit (.bool b), .lit (.int .i64 k), .lit (.int .i64 w), .lit (.int .i64 i), .lit (.int .i64 x), .isl n none c] ∧ h' = h := by
  have hs : smallF (named nm (b, t)) := by
    obtain ⟨a1, a2, a3, a4, a5, a6, a7⟩ := t
    rw [smallF] at ht
    show smallF (.mk nm b a3 a4 a5 a6 a7)
    rw [smallF]; exact ht
  have := copied_ok _ (named nm (b, t)) (Nat.le_refl _) hs h
  rw [named_cells, he] at this
  exact Tri.args this (UpL.cons (Up.aggB b) UpL.nil)
theorem checkN_ok (t : Fld) (ht : okF t) (nm : ByteArray) (hn : nm.size ≤ 140737488351232) (b : Bool) (k w i x : Int) (n : Nat) (c : List EV) (he : tyC t = [.lit (.int .i64 k), .lit (.int .i64 w), .lit (.int .i64 i), .lit (.int .i64 x), .isl n none c]) (h : EH) :
    Tri Tryz.prog gs 20 [.agg [.lit (.string nm), .lit (.bool b), .lit (.int .i64 k), .lit (.int .i64 w), .lit (.int .i64 i), .lit (.int .i64 x), .isl n none c]] h
      fun v h' => IsF (mayF (named nm (b, t))) v ∧ h' = h := by
  have := checkField_ok (named nm (b, t)) (namedF_ok hn ht) h
  rw [named_cells, he] at this
  exact this
set_option maxRecDepth 100000 in
set_option maxHeartbeats 16000000 in
theorem typeOf_at (N : Int) (hN1 : 1 ≤ N) (hN3 : N ≤ 3) (T U : Nat) (hrT : Nat.beq T roundF = false) (hrU : Nat.beq U roundF = false) (b : Bool) (g : Nat) (d : List EV) (hd0 : clL d = true) (l : List Fld) (hl : l.length ≤ 140737488351232) (hok : okFs l) (pT pU : Prop) (tT : Fld)
    (hgT : goodF Tryz.prog T = true) (hgU : goodF Tryz.prog U = true)
    (hT : (l.length : Int) = N → (∀ f ∈ l, mayF f) → ∀ (n : Nat) (c : List EV), LP (l.map plF) n c → ∀ h : EH, Tri Tryz.prog gs T [.isl n none c] h fun v h' => IsT pT tT v ∧ h' = h)
    (hU : (l.length : Int) = N → ∀ (n : Nat) (c : List EV), LP (l.map plF) n c → ∀ h : EH, Tri Tryz.prog gs U [.isl n none c] h fun v h' => IsP pU v ∧ h' = h)
    (htT : (l.length : Int) = N → (∀ f ∈ l, mayF f) → okF tT ∧ smallF tT) :
    Tri Tryz.prog gs 8 [rul N T U b g d, .isl l.length none (cellsFs l)] [] fun v h' => ∃ v', TypeV (typeX N pT pU tT l) v' ∧ Up v v' := by
  conv at hrT => lhs; cbv
  conv at hrU => lhs; cbv
  have hall := all_getD (l := l) (q := mayF)
  have hNi : i64r N := by unfold i64r; omega
  have x1 := typeX_arg (N := N) (pT := pT) (pU := pU) (tT := tT) (l := l)
  have x2 := typeX_bad (N := N) (pT := pT) (pU := pU) (tT := tT) (l := l)
  have x3 := typeX_no (N := N) (pT := pT) (pU := pU) (tT := tT) (l := l)
  have x4 := fun b => typeX_yes (N := N) (pT := pT) (pU := pU) (tT := tT) (l := l) (b := b)
  have x5 := fun b => typeX_not (N := N) (pT := pT) (pU := pU) (tT := tT) (l := l) (b := b)
  have hnm0 : l.length ≠ 0 → List.take 7 (List.drop (0 * 7) (cellsFs l)) = cellsF (l.getD 0 fld0) := fun h0 => fs_get l 0 (by omega)
  have hnmok : l.length ≠ 0 → (l.getD 0 fld0).nm.size ≤ 140737488351232 := fun h0 => okF_nm (okFs_mem hok (mem_getD (by omega)))
  generalize hR : typeX N pT pU tT l = R at *
  have hg := fs_get l
  have hstep := fun z => pf_step (l := l) (z := z)
  unfold rul
  obtain ⟨n, hn⟩ : ∃ n, n = l.length := ⟨_, rfl⟩
  obtain ⟨c, hc⟩ : ∃ n, n = cellsFs l := ⟨_, rfl⟩
  rw [← hn, ← hc]
  refine Tri_of F8_ok fun I0 ρ0 w0 Q hρ hQ => ?_
  obtain ⟨A, hA⟩ : ∃ A, A = stdA := ⟨_, rfl⟩
  with_reducible refine runS hA hd hQ 200 ?hk ?_
  case hk => exact trivial
  conv => arg 9; cbv
  try simp only [OK]
  repeat' first | (with_reducible refine OKK.loop ?_) | (with_reducible refine OKK.again ?_) | ((with_reducible refine ⟨fun hbr => ?_, fun hbr => ?_⟩) <;> (try simp (disch := omega) only [hA, OK, emaU, Int.reduceToNat, s_bat, reduceCtorEq] at hbr) <;> (try (with_reducible exfalso; omega))) | ((with_reducible refine runK hA hd hQ 200 ?hk ?_); (case hk => exact trivial); (conv => arg 9; cbv); (try simp only [OK])) | ((with_reducible refine need_of ?hn ?_); (case hn => ((simp (disch := omega) only [hA, OK, emaU, Int.reduceToNat, s_bat]) <;> omega))) | fail
  · exact FinR.ty0 rfl (x1 (by omega))
  refine OKs.mask (msk 69 [1, 2, 4, 7, 24, 25, 26]) ?_
  refine OKs.loopN (fun m st => ∃ (z : Int) (bn : Nat) (bc d1 : List EV), ((bn = 0 ∧ st = ⟨mkT 69 [(1, .isl n none c), (2, .ptr 0 0), (4, .ptr 1 0), (7, .lit (.slice none 0 0)), (24, .isl n none c), (25, .lit (.int .i64 (A.ofn n))), (26, .lit (.int .i64 z))], [.blk [.lit (.int .i64 N), .fn (.func T) [] [], .fn (.func U) [] [], .lit (.bool b), .fn (.func g) [] d1], .blk [.lit (.string ⟨#[]⟩), .lit (.bool false), .lit (.int .i64 0), .lit (.int .i64 0), .lit (.int .i64 0), .lit (.int .i64 0), .lit (.slice none 0 0)]]⟩) ∨ st = ⟨mkT 69 [(1, .isl n none c), (2, .ptr 0 0), (4, .ptr 1 0), (7, .sl 7 2 0 bn none), (24, .isl n none c), (25, .lit (.int .i64 (A.ofn n))), (26, .lit (.int .i64 z))], [.blk [.lit (.int .i64 N), .fn (.func T) [] [], .fn (.func U) [] [], .lit (.bool b), .fn (.func g) [] d1], .blk [.lit (.string ⟨#[]⟩), .lit (.bool false), .lit (.int .i64 0), .lit (.int .i64 0), .lit (.int .i64 0), .lit (.int .i64 0), .lit (.slice none 0 0)], .blk bc]⟩) ∧
      d1 = d ∧ m = (n - z).toNat ∧ 0 ≤ z ∧ z ≤ n ∧ bn = z.toNat ∧ bc = cellsPF ((l.take z.toNat).map plF) ∧ ∀ j, j < z.toNat → mayF (l.getD j fld0)) (fun m st hs' ih => ?_)
    ⟨0, 0, [], d, .inl ⟨rfl, rfl⟩, rfl, rfl, by omega, by omega, rfl, rfl, fun j hj => absurd hj (by simp)⟩
  obtain ⟨z, bn, bc, d1, hst, hd1, hm, hz1, hz2, hbn, hbc, hmay⟩ := hs'
  subst hd1
  have hst2 := allP_step (p := fun j => mayF (l.getD j fld0)) hz1 hmay
  have hbl : bc.length = 7 * bn := by rw [hbc, cellsPF_len, List.length_map, List.length_take]; omega
  have hmv : ∀ g z, mvL g z bc = bc := fun g z => mvL_cl _ _ _ (by rw [hbc]; exact clPF _)
  have hL : z < n → List.take 7 (List.drop (A.idx 0 z 7) c) = cellsF (l.getD z.toNat fld0) := fun hz => by rw [hA, s_idx, Nat.zero_add, hc, hg z.toNat (by omega)]
  have hof : z < n → okF (l.getD z.toNat fld0) := fun hz => okFs_mem hok (mem_getD (by omega))
  have hck : z < n → ∀ h : EH, Tri Tryz.prog gs 20 [.agg (cellsF (l.getD z.toNat fld0))] h fun v h' => IsF (mayF (l.getD z.toNat fld0)) v ∧ h' = h := fun hz => checkField_ok _ (hof hz)
  have hpl : z < n → mayF (l.getD z.toNat fld0) → ∀ h : EH, Tri Tryz.prog gs 21 [.agg (cellsF (l.getD z.toNat fld0))] h fun v h' => v = .agg (plF (l.getD z.toNat fld0)).cells ∧ h' = h := fun hz hy => calcPlain_ok _ (hof hz) hy
  have hs2 : z < n → cellsPF ((l.take (z.toNat + 1)).map plF) = bc ++ (plF (l.getD z.toNat fld0)).cells := fun hz => by rw [hbc]; exact hstep _ (by omega)
  have hxb : z < n → ¬ mayF (l.getD z.toNat fld0) → R = (fld0, 5) := fun hz hy => x2 (by omega) ⟨_, mem_getD (by omega), hy⟩
  have hall' : z = n → ∀ f ∈ l, mayF f := fun hz => hall fun j hj => hmay j (by omega)
  have hbe : z = n → bn = l.length ∧ bc = cellsPF (l.map plF) := fun hz => ⟨by omega, by rw [hbc, List.take_of_length_le (by omega)]⟩
  have hT' : z = n → ∀ h : EH, Tri Tryz.prog gs T [.isl bn none bc] h fun v h' => IsT pT tT v ∧ h' = h := fun hz => hT (by omega) (hall' hz) bn bc (by
    rw [(hbe hz).1, (hbe hz).2, show l.length = (l.map plF).length by simp]; exact LP.of (by simpa using hl))
  have hU' : z = n → ∀ h : EH, Tri Tryz.prog gs U [.isl bn none bc] h fun v h' => IsP pU v ∧ h' = h := fun hz => hU (by omega) bn bc (by
    rw [(hbe hz).1, (hbe hz).2, show l.length = (l.map plF).length by simp]; exact LP.of (by simpa using hl))
  have y3 : z = n → ¬ pT → R = (fld0, 5) := fun hz => x3 (by omega) (hall' hz)
  have y4 : z = n → pT → ∀ u : Bool, (u = true ↔ pU) → mayF (named (l.getD 0 fld0).nm (u, tT)) → R = (named (l.getD 0 fld0).nm (u, tT), 0) := fun hz h1 u => x4 u (by omega) (hall' hz) h1
  have y5 : z = n → pT → ∀ u : Bool, (u = true ↔ pU) → ¬ mayF (named (l.getD 0 fld0).nm (u, tT)) → R = (fld0, 5) := fun hz h1 u => x5 u (by omega) (hall' hz) h1
  have htT' : z = n → okF tT ∧ smallF tT := fun hz => htT (by omega) (hall' hz)
  have hnm1 : List.take 1 (List.drop (A.add (A.idx 0 0 7) 0) c) = [.lit (.string (l.getD 0 fld0).nm)] := by
    rw [hA, hc]
    have := hnm0 (by omega)
    show List.take 1 (List.drop 0 (cellsFs l)) = _
    rw [Nat.zero_mul] at this
    have h2 := congrArg (List.take 1) this
    rw [List.take_take, cellsF_eq] at h2
    exact h2
  have hnm2 := hnmok (by omega)
  generalize (l.getD 0 fld0).nm = nm0 at *
  clear hof x1 x2 x3 x4 x5 hT hU htT hnm0 hnmok
  generalize plF (l.getD z.toNat fld0) = q at *
  generalize mayF (l.getD z.toNat fld0) = M at *
  rw [cellsF_eq] at hL hck hpl
  generalize l.getD z.toNat fld0 = e at *
  generalize e.nm = nm', e.nul = nul', e.kind = k', e.width = w', e.id = i', e.idx = x', e.kids.length = kn', cellsFs e.kids = kc' at *
  obtain ⟨qn, qu, qg⟩ := q
  simp only [PF.cells, tyC] at hpl hs2
  generalize qg.kind = k, qg.width = w, qg.id = i, qg.idx = x, qg.kids.length = kn, cellsFs qg.kids = kc at *
  rcases hst with ⟨h0, rfl⟩ | rfl
  all_goals
    with_reducible refine runS hA hd hQ 1 ?hk ?_
    case hk => exact trivial
    conv => arg 9; cbv
    try simp only [OK]
    repeat' first | (with_reducible refine OKK.loop ?_) | (with_reducible refine OKK.again ?_) | (with_reducible refine OKK.stopS (some 42) ?_) | (with_reducible refine OKK.stopO (some 42) ?_) | ((with_reducible refine ⟨fun hbr => ?_, fun hbr => ?_⟩) <;> (try simp (disch := omega) only [hA, OK, emaU, Int.reduceToNat, s_bat, reduceCtorEq] at hbr) <;> (try (with_reducible exfalso; omega))) | ((with_reducible refine runK hA hd hQ 1 ?hk ?_); (case hk => exact trivial); (conv => arg 9; cbv); (try simp only [OK])) | ((with_reducible refine need_of ?hn ?_); (case hn => ((simp (disch := omega) only [hA, OK, emaU, Int.reduceToNat, s_bat]) <;> omega))) | ((refine ⟨_, _, ?l1, (hL (by omega)), rfl, ?_⟩); (case l1 => exact rfl)) | fail
  all_goals try
    refine CallOK.of (goodF_of F20_ok) (Tri.mono (hck (by omega) _) fun v hh hx => ?_)
    obtain ⟨⟨er, at', pn, pc, hv, he⟩, hh'⟩ := hx
    subst hv; subst hh'
    with_reducible refine runK hA hd hQ 1 ?hk ?_
    case hk => exact trivial
    conv => arg 9; cbv
    try simp only [OK]
    repeat' first | (with_reducible refine OKK.loop ?_) | (with_reducible refine OKK.again ?_) | ((with_reducible refine ⟨fun hbr => ?_, fun hbr => ?_⟩) <;> (try simp (disch := omega) only [hA, OK, emaU, Int.reduceToNat, s_bat, reduceCtorEq] at hbr) <;> (try (with_reducible exfalso; omega))) | ((with_reducible refine runK hA hd hQ 200 ?hk ?_); (case hk => exact trivial); (conv => arg 9; cbv); (try simp only [OK])) | ((with_reducible refine need_of ?hn ?_); (case hn => ((simp (disch := omega) only [hA, OK, emaU, Int.reduceToNat, s_bat]) <;> omega))) | fail
  all_goals try
    refine CallOK.of (goodF_of F21_ok) (Tri.mono (hpl (by omega) (he.1 (by omega)) _) fun v hh hx => ?_)
    obtain ⟨hv, hh'⟩ := hx
    subst hv; subst hh'
    with_reducible refine runK hA hd hQ 1 ?hk ?_
    case hk => exact trivial
    conv => arg 9; cbv
    try simp only [OK]
    repeat' first | (with_reducible refine OKK.loop ?_) | (with_reducible refine OKK.again ?_) | ((with_reducible refine ⟨fun hbr => ?_, fun hbr => ?_⟩) <;> (try simp (disch := omega) only [hA, OK, emaU, Int.reduceToNat, s_bat, reduceCtorEq] at hbr) <;> (try (with_reducible exfalso; omega))) | ((with_reducible refine runK hA hd hQ 200 ?hk ?_); (case hk => exact trivial); (conv => arg 9; cbv); (try simp only [OK])) | ((with_reducible refine need_of ?hn ?_); (case hn => ((simp (disch := omega) only [hA, OK, emaU, Int.reduceToNat, s_bat]) <;> omega))) | fail
  all_goals try exact FinR.ty0 rfl (hxb (by omega) fun hy => absurd (he.2 hy) (by omega))
  · have hz1' : (A.ib .add .i64 z 1).toNat = z.toNat + 1 := by simp (disch := omega) only [hA, OK, emaU, Int.reduceToNat, s_bat]; omega
    have hb0 : bc = [] := List.length_eq_zero_iff.1 (by omega)
    refine OKs.mask (msk 69 [1, 2, 4, 7, 24, 25, 26]) (OKs.mv [0, 1, 4] [] (by rw [hρ]; rfl) ⟨by decide, by simp [sizeH], by simp⟩ (ih _ _ ⟨A.ib .add .i64 z 1, _, _, _, .inr rfl, mvL_cl _ _ _ hd0, rfl, ?_, ?_, ?_, ?_, ?_⟩ ?_))
    · simp (disch := omega) only [hA, OK, emaU, Int.reduceToNat, s_bat]; omega
    · simp (disch := omega) only [hA, OK, emaU, Int.reduceToNat, s_bat]; omega
    · rw [hz1']; omega
    · rw [hz1', hs2 (by omega), hb0, List.nil_append, hA]
      exact mvL_cl _ _ _ rfl
    · rw [hz1', show z.toNat + 1 = (z + 1).toNat by omega]; exact hst2 (he.1 (by omega))
    · simp (disch := omega) only [hA, OK, emaU, Int.reduceToNat, s_bat]; omega
  · have hz1' : (A.ib .add .i64 z 1).toNat = z.toNat + 1 := by simp (disch := omega) only [hA, OK, emaU, Int.reduceToNat, s_bat]; omega
    have hpush : A.app (A.tak (A.mul bn 7) (A.drp 0 bc)) (A.tak (A.mul 1 7) (A.drp 0 [.lit (.string qn), .lit (.bool qu), .lit (.int .i64 k), .lit (.int .i64 w), .lit (.int .i64 i), .lit (.int .i64 x), .isl kn none kc])) = bc ++ [.lit (.string qn), .lit (.bool qu), .lit (.int .i64 k), .lit (.int .i64 w), .lit (.int .i64 i), .lit (.int .i64 x), .isl kn none kc] := by
      rw [hA]
      simp only [s_app, s_tak, s_drp, s_mulN, List.drop_zero]
      rw [List.take_of_length_le (by omega)]
      rfl
    refine OKs.mask (msk 69 [1, 2, 4, 7, 24, 25, 26]) (OKs.mv [0, 1, 5] [] (by rw [hρ]; rfl) ⟨by decide, by simp [sizeH], by simp⟩ (ih _ _ ⟨A.ib .add .i64 z 1, _, _, _, .inr rfl, mvL_cl _ _ _ hd0, rfl, ?_, ?_, ?_, ?_, ?_⟩ ?_))
    · simp (disch := omega) only [hA, OK, emaU, Int.reduceToNat, s_bat]; omega
    · simp (disch := omega) only [hA, OK, emaU, Int.reduceToNat, s_bat]; omega
    · rw [hz1', hA]; show bn + 1 = _; omega
    · rw [hz1', hs2 (by omega)]
      exact (congrArg _ hpush).trans (mvL_cl _ _ _ (by rw [← hs2 (by omega)]; exact clPF _))
    · rw [hz1', show z.toNat + 1 = (z + 1).toNat by omega]; exact hst2 (he.1 (by omega))
    · simp (disch := omega) only [hA, OK, emaU, Int.reduceToNat, s_bat]; omega
  refine OKs.mask (msk 69 [1, 2, 4, 7]) (OKs.mv [0, 1] [2] (by rw [hρ]; rfl) ⟨by decide, by simp [sizeH], fun id hid => by simp at hid; subst hid; exact ⟨_, rfl, by rw [hbc]; exact clPF _⟩⟩ ?_)
  have hzn : z = n := by omega
  obtain ⟨hoT, hsT⟩ := htT' hzn
  with_reducible refine runS hA hd hQ 200 ?hk ?_
  case hk => exact trivial
  conv => arg 9; cbv
  try simp only [OK]
  repeat' first | (with_reducible refine OKK.loop ?_) | (with_reducible refine OKK.again ?_) | ((with_reducible refine ⟨fun hbr => ?_, fun hbr => ?_⟩) <;> (try simp (disch := omega) only [hA, OK, emaU, Int.reduceToNat, s_bat, reduceCtorEq] at hbr) <;> (try (with_reducible exfalso; omega))) | ((with_reducible refine runK hA hd hQ 200 ?hk ?_); (case hk => exact trivial); (conv => arg 9; cbv); (try simp only [OK])) | ((with_reducible refine need_of ?hn ?_); (case hn => ((simp (disch := omega) only [hA, OK, emaU, Int.reduceToNat, s_bat]) <;> omega))) | fail
  simp only [hrT, Bool.false_eq_true, if_false, OK]
  refine CallOK.of hgT (Tri.mono (hT' (by omega) _) fun v hh hx => ?_)
  obtain ⟨⟨bt, tk, tw, ti, tx, tn, tc, hv, hb, ht⟩, hh'⟩ := hx
  subst hv; subst hh'
  cases bt
  · with_reducible refine runK hA hd hQ 1 ?hk ?_
    case hk => exact trivial
    conv => arg 9; cbv
    try simp only [OK]
    repeat' first | (with_reducible refine OKK.loop ?_) | (with_reducible refine OKK.again ?_) | ((with_reducible refine ⟨fun hbr => ?_, fun hbr => ?_⟩) <;> (try simp (disch := omega) only [hA, OK, emaU, Int.reduceToNat, s_bat, reduceCtorEq] at hbr) <;> (try (with_reducible exfalso; omega))) | ((with_reducible refine runK hA hd hQ 200 ?hk ?_); (case hk => exact trivial); (conv => arg 9; cbv); (try simp only [OK])) | ((with_reducible refine need_of ?hn ?_); (case hn => ((simp (disch := omega) only [hA, OK, emaU, Int.reduceToNat, s_bat]) <;> omega))) | fail
    exact FinR.ty0 rfl (y3 hzn (by simpa using hb))
  with_reducible refine runK hA hd hQ 1 ?hk ?_
  case hk => exact trivial
  conv => arg 9; cbv
  try simp only [OK]
  repeat' first | (with_reducible refine OKK.loop ?_) | (with_reducible refine OKK.again ?_) | ((with_reducible refine ⟨fun hbr => ?_, fun hbr => ?_⟩) <;> (try simp (disch := omega) only [hA, OK, emaU, Int.reduceToNat, s_bat, reduceCtorEq] at hbr) <;> (try (with_reducible exfalso; omega))) | ((with_reducible refine runK hA hd hQ 200 ?hk ?_); (case hk => exact trivial); (conv => arg 9; cbv); (try simp only [OK])) | ((with_reducible refine need_of ?hn ?_); (case hn => ((simp (disch := omega) only [hA, OK, emaU, Int.reduceToNat, s_bat]) <;> omega))) | ((refine ⟨_, _, ?l1, hnm1, rfl, ?_⟩); (case l1 => exact rfl)) | fail
  simp only [hrU, Bool.false_eq_true, if_false, OK]
  refine CallOK.of hgU (Tri.mono (hU' hzn _) fun v hh hx => ?_)
  obtain ⟨⟨bu, hv, hbu⟩, hh'⟩ := hx
  subst hv; subst hh'
  with_reducible refine runK hA hd hQ 1 ?hk ?_
  case hk => exact trivial
  conv => arg 9; cbv
  try simp only [OK]
  repeat' first | (with_reducible refine OKK.loop ?_) | (with_reducible refine OKK.again ?_) | (with_reducible refine And.intro trivial ?_) | ((with_reducible refine ⟨fun hbr => ?_, fun hbr => ?_⟩) <;> (try simp (disch := omega) only [hA, OK, emaU, Int.reduceToNat, s_bat, reduceCtorEq] at hbr) <;> (try (with_reducible exfalso; omega))) | ((with_reducible refine runK hA hd hQ 200 ?hk ?_); (case hk => exact trivial); (conv => arg 9; cbv); (try simp only [OK])) | ((with_reducible refine need_of ?hn ?_); (case hn => ((simp (disch := omega) only [hA, OK, emaU, Int.reduceToNat, s_bat]) <;> omega))) | fail
  refine CallOK.of (goodF_of F22_ok) (Tri.mono (copiedS_ok tT hsT _ bu _ _ _ _ _ _ (ht (hb.1 rfl)) _) fun v hh hx => ?_)
  obtain ⟨hv, hh'⟩ := hx
  subst hv; subst hh'
  with_reducible refine runK hA hd hQ 1 ?hk ?_
  case hk => exact trivial
  conv => arg 9; cbv
  try simp only [OK]
  repeat' first | (with_reducible refine OKK.loop ?_) | (with_reducible refine OKK.again ?_) | ((with_reducible refine ⟨fun hbr => ?_, fun hbr => ?_⟩) <;> (try simp (disch := omega) only [hA, OK, emaU, Int.reduceToNat, s_bat, reduceCtorEq] at hbr) <;> (try (with_reducible exfalso; omega))) | ((with_reducible refine runK hA hd hQ 200 ?hk ?_); (case hk => exact trivial); (conv => arg 9; cbv); (try simp only [OK])) | ((with_reducible refine need_of ?hn ?_); (case hn => ((simp (disch := omega) only [hA, OK, emaU, Int.reduceToNat, s_bat]) <;> omega))) | fail
  refine CallOK.of (goodF_of F20_ok) (Tri.mono (checkN_ok tT hoT _ hnm2 bu _ _ _ _ _ _ (ht (hb.1 rfl)) _) fun v hh hx => ?_)
  obtain ⟨⟨er2, at2, pn2, pc2, hv, he2⟩, hh'⟩ := hx
  subst hv; subst hh'
  with_reducible refine runK hA hd hQ 1 ?hk ?_
  case hk => exact trivial
  conv => arg 9; cbv
  try simp only [OK]
  repeat' first | (with_reducible refine OKK.loop ?_) | (with_reducible refine OKK.again ?_) | ((with_reducible refine ⟨fun hbr => ?_, fun hbr => ?_⟩) <;> (try simp (disch := omega) only [hA, OK, emaU, Int.reduceToNat, s_bat, reduceCtorEq] at hbr) <;> (try (with_reducible exfalso; omega))) | ((with_reducible refine runK hA hd hQ 200 ?hk ?_); (case hk => exact trivial); (conv => arg 9; cbv); (try simp only [OK])) | ((with_reducible refine need_of ?hn ?_); (case hn => ((simp (disch := omega) only [hA, OK, emaU, Int.reduceToNat, s_bat]) <;> omega))) | fail
  · exact FinR.ty0 rfl (y5 hzn (hb.1 rfl) bu hbu fun hy => absurd (he2.2 hy) (by omega))
  · exact FinR.tyv rfl (y4 hzn (hb.1 rfl) bu hbu (he2.1 (by omega))) (ht (hb.1 rfl))
-- emaX: s_bat
theorem argsR_ok (op : Int) (h : EH) : Tri Tryz.prog gs 10 [.lit (.int .i64 op)] h fun v h' => IsN .i64 (fun x => x = if argsN op = 0 then -1 else argsN op) v ∧ h' = h := by
  refine Tri.intC rfl (Tri_of F10_ok fun I0 ρ0 w0 Q hρ hQ => ?_) h
  obtain ⟨A, hA⟩ : ∃ A, A = stdA := ⟨_, rfl⟩
  with_reducible refine runS hA hd hQ 200 ?hk ?_
  case hk => exact trivial
  conv => arg 9; cbv
  try simp only [OK]
  repeat' first | ((with_reducible refine ⟨fun hbr => ?_, fun hbr => ?_⟩) <;> (try simp (disch := omega) only [hA, OK, emaU, Int.reduceToNat, s_bat, reduceCtorEq] at hbr) <;> (try (with_reducible exfalso; omega))) | ((with_reducible refine runK hA hd hQ 200 ?hk ?_); (case hk => exact trivial); (conv => arg 9; cbv); (try simp only [OK])) | ((with_reducible refine need_of ?hn ?_); (case hn => ((simp (disch := omega) only [hA, OK, emaU, Int.reduceToNat, s_bat]) <;> omega))) | fail
  all_goals (try (with_reducible refine FinR.self ?_; first | refine FinR.n rfl ?_ | refine FinR.nh rfl ?_ rfl))
  all_goals (try simp (disch := omega) only [hA, OK, emaU, Int.reduceToNat, s_bat, Bool.false_eq_true, true_iff, false_iff, eq_self, iff_true, iff_false])
  all_goals (unfold argsN; (repeat' split) <;> omega)
theorem wholeR_ok (k : Int) (h : EH) : Tri Tryz.prog gs 13 [.lit (.int .i64 k)] h fun v h' => IsP (3 ≤ k ∧ k ≤ 10) v ∧ h' = h := by
  refine Tri.boolC rfl (Tri_of F13_ok fun I0 ρ0 w0 Q hρ hQ => ?_) h
  obtain ⟨A, hA⟩ : ∃ A, A = stdA := ⟨_, rfl⟩
  with_reducible refine runS hA hd hQ 200 ?hk ?_
  case hk => exact trivial
  conv => arg 9; cbv
  try simp only [OK]
  repeat' first | ((with_reducible refine ⟨fun hbr => ?_, fun hbr => ?_⟩) <;> (try simp (disch := omega) only [hA, OK, emaU, Int.reduceToNat, s_bat, reduceCtorEq] at hbr) <;> (try (with_reducible exfalso; omega))) | ((with_reducible refine runK hA hd hQ 200 ?hk ?_); (case hk => exact trivial); (conv => arg 9; cbv); (try simp only [OK])) | ((with_reducible refine need_of ?hn ?_); (case hn => ((simp (disch := omega) only [hA, OK, emaU, Int.reduceToNat, s_bat]) <;> omega))) | fail
  all_goals (try (with_reducible refine FinR.self ?_; first | refine FinR.bl rfl ?_ | refine FinR.bs rfl ?_ | refine FinR.blh rfl ?_ rfl | refine FinR.bsh rfl ?_ rfl))
  all_goals (try simp (disch := omega) only [hA, OK, emaU, Int.reduceToNat, s_bat, Bool.false_eq_true, true_iff, false_iff, eq_self, iff_true, iff_false])
  all_goals omega
theorem textsR_ok (k : Int) (h : EH) : Tri Tryz.prog gs 15 [.lit (.int .i64 k)] h fun v h' => IsP (k = 12 ∨ k = 13) v ∧ h' = h := by
  refine Tri.boolC rfl (Tri_of F15_ok fun I0 ρ0 w0 Q hρ hQ => ?_) h
  obtain ⟨A, hA⟩ : ∃ A, A = stdA := ⟨_, rfl⟩
  with_reducible refine runS hA hd hQ 200 ?hk ?_
  case hk => exact trivial
  conv => arg 9; cbv
  try simp only [OK]
  repeat' first | ((with_reducible refine ⟨fun hbr => ?_, fun hbr => ?_⟩) <;> (try simp (disch := omega) only [hA, OK, emaU, Int.reduceToNat, s_bat, reduceCtorEq] at hbr) <;> (try (with_reducible exfalso; omega))) | ((with_reducible refine runK hA hd hQ 200 ?hk ?_); (case hk => exact trivial); (conv => arg 9; cbv); (try simp only [OK])) | ((with_reducible refine need_of ?hn ?_); (case hn => ((simp (disch := omega) only [hA, OK, emaU, Int.reduceToNat, s_bat]) <;> omega))) | fail
  all_goals (try (with_reducible refine FinR.self ?_; first | refine FinR.bl rfl ?_ | refine FinR.bs rfl ?_ | refine FinR.blh rfl ?_ rfl | refine FinR.bsh rfl ?_ rfl))
  all_goals (try simp (disch := omega) only [hA, OK, emaU, Int.reduceToNat, s_bat, Bool.false_eq_true, true_iff, false_iff, eq_self, iff_true, iff_false])
  all_goals omega
theorem copyFieldsC_ok (l : List Fld) (hl : l.length ≤ 32) (hs : smallFs l) (h : EH) :
    Tri Tryz.prog gs 16 [.isl l.length none (cellsFs l)] h fun v h' => v = .isl l.length none (cellsFs l) ∧ h' = h := by
  have t1 := Tri.mv (R' := fun v h' => ∃ v', v' = EV.isl l.length none (cellsFs l) ∧ Up v v') (copyFields_at l hl fun c hc h => copyField_ok _ c (Nat.le_refl _) (smalls_mem hs hc) h) fun v h' hr => by
    obtain ⟨cap, t, hv, hh⟩ := hr
    subst hv; subst hh
    exact ⟨[], [0], rfl, ⟨by simp, by simp, fun id hid => by simp at hid; subst hid; exact ⟨_, rfl, clFs _⟩⟩, _, rfl, Up.cap _ _ _⟩
  exact Tri.valK rfl rfl (Tri.up t1 fun v h' ⟨v', h1, h2⟩ => ⟨v', h1, h2⟩) h
theorem copyNil_ok (h : EH) : Tri Tryz.prog gs 16 [.lit (.slice none 0 0)] h fun v h' => v = .isl 0 none [] ∧ h' = h :=
  Tri.args (copyFieldsC_ok [] (by simp) trivial h) (UpL.cons (Up.nil _) UpL.nil)
theorem copyT_ok (t : Fld) (ht : smallF t) (k w i x : Int) (n : Nat) (c : List EV) (he : tyC t = [.lit (.int .i64 k), .lit (.int .i64 w), .lit (.int .i64 i), .lit (.int .i64 x), .isl n none c]) (h : EH) :
    Tri Tryz.prog gs 16 [.isl n none c] h fun v h' => v = .isl n none c ∧ h' = h := by
  have := copyFieldsC_ok t.kids (small_kids ht).2 (small_kids ht).1 h
  simp only [tyC, List.cons.injEq, EV.isl.injEq, true_and, and_true] at he
  rw [he.2.2.2.2.1, he.2.2.2.2.2] at this
  exact this
theorem mayN_ok (t : Fld) (ht : okF t) (nm : ByteArray) (hn : nm.size ≤ 140737488351232) (b : Bool) (k w i x : Int) (n : Nat) (c : List EV) (he : tyC t = [.lit (.int .i64 k), .lit (.int .i64 w), .lit (.int .i64 i), .lit (.int .i64 x), .isl n none c]) (h : EH) :
    Tri Tryz.prog gs 11 [.agg [.lit (.string nm), .lit (.bool b), .lit (.int .i64 k), .lit (.int .i64 w), .lit (.int .i64 i), .lit (.int .i64 x), .isl n none c]] h
      fun v h' => IsP (mayF (named nm (b, t))) v ∧ h' = h := by
  have := mayBeR_ok (named nm (b, t)) (namedF_ok hn ht) h
  rw [named_cells, he] at this
  exact this
theorem plain17_ok (f : Fld) (hf : okF f) (hm : mayF f) (h : EH) : Tri Tryz.prog gs 12 [.agg (cellsF f)] h fun v h' => v = .agg (plF f).cells ∧ h' = h := by
  obtain ⟨_, h1, h2⟩ := plF_ok hf hm
  have := plainXR_ok f (plF f).g (plF f).nul (mayF_all hm) h1 h
  rw [plE_eq] at this
  rw [← h2] at this
  exact this
def DocV (r : Fld × Int) (v : EV) : Prop := v = .tup [.agg (cellsF r.1), .lit (.int .i64 r.2)]
theorem DocV.cl {r : Fld × Int} {v : EV} (h : DocV r v) : clE v = true := by
  rw [show v = _ from h, cellsF_eq]; rfl
theorem FinR.doc0 {rs : List ER} {s : St} {r : Fld × Int} {e : Int} (hv : retE rs s.t s.h = some (.tup [.agg [.lit (.string ⟨#[]⟩), .lit (.bool false), .lit (.int .i64 0), .lit (.int .i64 0), .lit (.int .i64 0), .lit (.int .i64 0), .lit (.slice none 0 0)], .lit (.int .i64 e)])) (hr : r = (fld0, e)) :
    FinR rs (fun v _ => ∃ v', DocV r v' ∧ Up v v') s := by
  subst hr
  exact ⟨_, hv, _, rfl, Up.tup2 (Up.agg7 (Up.nil _)) (Up.refl _)⟩
theorem FinR.docv {rs : List ER} {s : St} {r : Fld × Int} {nm : ByteArray} {b : Bool} {k w i x : Int} {n : Nat} {c : List EV} {t : Fld} (hv : retE rs s.t s.h = some (.tup [.agg [.lit (.string nm), .lit (.bool b), .lit (.int .i64 k), .lit (.int .i64 w), .lit (.int .i64 i), .lit (.int .i64 x), .isl n none c], .lit (.int .i64 0)]))
    (hr : r = (named nm (b, t), 0)) (ht : tyC t = [.lit (.int .i64 k), .lit (.int .i64 w), .lit (.int .i64 i), .lit (.int .i64 x), .isl n none c]) : FinR rs (fun v _ => ∃ v', DocV r v' ∧ Up v v') s := by
  subst hr
  refine ⟨_, hv, _, rfl, Up.tup2 ?_ (Up.refl _)⟩
  rw [named_cells, ht]
  exact Up.refl _
theorem typeR_arg {op : Int} {l : List Fld} (h : argsN op = 0 ∨ (l.length : Int) ≠ argsN op) : typeR op l = (fld0, 1) := if_pos h
theorem typeR_bad {op : Int} {l : List Fld} (h : ¬ (argsN op = 0 ∨ (l.length : Int) ≠ argsN op)) (hb : ∃ f ∈ l, ¬ mayF f) : typeR op l = (fld0, 5) := by
  unfold typeR; rw [if_neg h, if_pos hb]
theorem typeR_no {op : Int} {l : List Fld} (h : ¬ (argsN op = 0 ∨ (l.length : Int) ≠ argsN op)) (hb : ∀ f ∈ l, mayF f) (hs : typeS op (l.map plF) = none) : typeR op l = (fld0, 5) := by
  unfold typeR; rw [if_neg h, if_neg (fun ⟨f, h1, h2⟩ => h2 (hb f h1)), hs]
theorem typeR_yes {op : Int} {l : List Fld} {x : Bool × Fld} (h : ¬ (argsN op = 0 ∨ (l.length : Int) ≠ argsN op)) (hb : ∀ f ∈ l, mayF f) (hs : typeS op (l.map plF) = some x) (hm : mayF (named (l.getD 0 fld0).nm x)) :
    typeR op l = (named (l.getD 0 fld0).nm x, 0) := by
  unfold typeR; rw [if_neg h, if_neg (fun ⟨f, h1, h2⟩ => h2 (hb f h1)), hs]; exact if_pos hm
theorem typeR_not {op : Int} {l : List Fld} {x : Bool × Fld} (h : ¬ (argsN op = 0 ∨ (l.length : Int) ≠ argsN op)) (hb : ∀ f ∈ l, mayF f) (hs : typeS op (l.map plF) = some x) (hm : ¬ mayF (named (l.getD 0 fld0).nm x)) :
    typeR op l = (fld0, 5) := by
  unfold typeR; rw [if_neg h, if_neg (fun ⟨f, h1, h2⟩ => h2 (hb f h1)), hs]; exact if_neg hm
def seqN : Nat → EC → EC
  | 0, c => c
  | n + 1, .seq _ b => seqN n b
  | _ + 1, c => c
theorem named_zt {g : Fld} (h : allF g) (h1 : 2 ≤ g.kind) (h2 : g.kind ≤ 13) (nm : ByteArray) (b : Bool) : named nm (b, zt g.kind) = named nm (b, g) := by
  obtain ⟨nm', nul, k, w, i, x, kids⟩ := g
  simp only [kind_mk] at h1 h2
  obtain ⟨_, ⟨_, _, hf⟩, _⟩ := h
  rw [if_neg (by omega), if_neg (by omega), if_neg (by omega), if_neg (by omega), if_neg (by omega), if_neg (by omega)] at hf
  obtain ⟨rfl, rfl, rfl, h0⟩ := hf
  have : kids = [] := List.length_eq_zero_iff.1 h0
  subst this
  rfl
open Classical in
noncomputable def endR (nm0 : ByteArray) (o : Option (Bool × Fld)) : Fld × Int := match o with
  | none => (fld0, 5)
  | some x => if mayF (named nm0 x) then (named nm0 x, 0) else (fld0, 5)
theorem endR_yes {nm0 : ByteArray} {x : Bool × Fld} (h : mayF (named nm0 x)) : endR nm0 (some x) = (named nm0 x, 0) := if_pos h
theorem endR_not {nm0 : ByteArray} {x : Bool × Fld} (h : ¬ mayF (named nm0 x)) : endR nm0 (some x) = (fld0, 5) := if_neg h
theorem typeR_end {op : Int} {l : List Fld} (h : ¬ (argsN op = 0 ∨ (l.length : Int) ≠ argsN op)) (hb : ∀ f ∈ l, mayF f) : typeR op l = endR (l.getD 0 fld0).nm (typeS op (l.map plF)) := by
  unfold typeR; rw [if_neg h, if_neg (fun ⟨f, h1, h2⟩ => h2 (hb f h1))]
  cases typeS op (l.map plF) <;> rfl
theorem ez2 : tyC (zt 2) = [.lit (.int .i64 2), .lit (.int .i64 0), .lit (.int .i64 0), .lit (.int .i64 0), .isl 0 none []] := rfl
theorem ez6 : tyC (zt 6) = [.lit (.int .i64 6), .lit (.int .i64 0), .lit (.int .i64 0), .lit (.int .i64 0), .isl 0 none []] := rfl
theorem hoz2 : okF (zt 2) := zt_ok (by unfold i64r; omega)
theorem hoz6 : okF (zt 6) := zt_ok (by unfold i64r; omega)
structure RH (A : Ar) (I0 : Imm) (ρ0 : Ren) (w0 : World) (Q : Exit → Act → World → Prop) (R : Fld × Int) (op : Int) (n : Nat) (bc c : List EV) (nm0 : ByteArray) (a al u1 u2 : Bool) (cp : Option Nat) (g0 g1 g2 : Fld) (k0 v0 i0 x0 k1 v1 i1 x1 k2 v2 i2 x2 : Int) (n0 n1 n2 : Nat) (c0 c1 c2 : List EV) : Prop where
  hnm' : List.take 1 (List.drop (A.add (A.idx 0 0 7) 0) c) = [.lit (.string nm0)]
  hnm0 : nm0.size ≤ 140737488351232
  hk0 : 0 < n → List.take 1 (List.drop (A.add (A.add (A.idx 0 0 7) 2) 0) bc) = [.lit (.int .i64 k0)]
  hk1 : 1 < n → List.take 1 (List.drop (A.add (A.add (A.idx 0 1 7) 2) 0) bc) = [.lit (.int .i64 k1)]
  ht0 : 0 < n → List.take 5 (List.drop (A.add (A.idx 0 0 7) 2) bc) = [.lit (.int .i64 k0), .lit (.int .i64 v0), .lit (.int .i64 i0), .lit (.int .i64 x0), .isl n0 none c0]
  ht1 : 1 < n → List.take 5 (List.drop (A.add (A.idx 0 1 7) 2) bc) = [.lit (.int .i64 k1), .lit (.int .i64 v1), .lit (.int .i64 i1), .lit (.int .i64 x1), .isl n1 none c1]
  ht2 : 2 < n → List.take 5 (List.drop (A.add (A.idx 0 2 7) 2) bc) = [.lit (.int .i64 k2), .lit (.int .i64 v2), .lit (.int .i64 i2), .lit (.int .i64 x2), .isl n2 none c2]
  hu1 : 1 < n → List.take 1 (List.drop (A.add (A.idx 0 1 7) 1) bc) = [.lit (.bool u1)]
  hu2 : 2 < n → List.take 1 (List.drop (A.add (A.idx 0 2 7) 1) bc) = [.lit (.bool u2)]
  hal01 : 1 < n → ∀ h : EH, Tri Tryz.prog gs 14 [.agg [.lit (.int .i64 k0), .lit (.int .i64 v0), .lit (.int .i64 i0), .lit (.int .i64 x0), .isl n0 none c0], .agg [.lit (.int .i64 k1), .lit (.int .i64 v1), .lit (.int .i64 i1), .lit (.int .i64 x1), .isl n1 none c1]] h fun v h' => IsP (alikeP g0 g1) v ∧ h' = h
  hal12 : 2 < n → ∀ h : EH, Tri Tryz.prog gs 14 [.agg [.lit (.int .i64 k1), .lit (.int .i64 v1), .lit (.int .i64 i1), .lit (.int .i64 x1), .isl n1 none c1], .agg [.lit (.int .i64 k2), .lit (.int .i64 v2), .lit (.int .i64 i2), .lit (.int .i64 x2), .isl n2 none c2]] h fun v h' => IsP (alikeP g1 g2) v ∧ h' = h
  hok0 : okF g0
  hok1 : okF g1
  hsm0 : smallF g0
  hsm1 : smallF g1
  e0 : tyC g0 = [.lit (.int .i64 k0), .lit (.int .i64 v0), .lit (.int .i64 i0), .lit (.int .i64 x0), .isl n0 none c0]
  e1 : tyC g1 = [.lit (.int .i64 k1), .lit (.int .i64 v1), .lit (.int .i64 i1), .lit (.int .i64 x1), .isl n1 none c1]
  hA : A = stdA
  hρ : ρ0 = []
  hQ : EndsQ Tryz.prog gs I0 ρ0 w0 Q (FinR F5.rs fun v h' => ∃ v', DocV R v' ∧ Up v v')
def RG (A : Ar) (I0 : Imm) (ρ0 : Ren) (w0 : World) (Q : Exit → Act → World → Prop) (R : Fld × Int) (op : Int) (n : Nat) (bc c : List EV) (nm0 : ByteArray) (a al u1 u2 : Bool) (cp : Option Nat) (g0 g1 g2 : Fld) (k0 v0 i0 x0 k1 v1 i1 x1 k2 v2 i2 x2 : Int) (n0 n1 n2 : Nat) (c0 c1 c2 : List EV) : Prop := OKs Tryz.prog gs none I0 ρ0 w0 Q [.c (seqN 5 F5.body)] ⟨mkT 263 [(0, .lit (.int .i64 op)), (1, .isl n none c), (4, .ptr 0 0), (5, .lit (.int .i64 0)), (6, .sl 7 1 0 n cp), (7, .lit (.bool a)), (8, .lit (.bool al))], [.blk [.lit (.string ⟨#[]⟩), .lit (.bool false), .lit (.int .i64 0), .lit (.int .i64 0), .lit (.int .i64 0), .lit (.int .i64 0), .lit (.slice none 0 0)], .blk bc]⟩
section
-- emaX: s_bat
section
variable (A : Ar) (I0 : Imm) (ρ0 : Ren) (w0 : World) (Q : Exit → Act → World → Prop) (R : Fld × Int) (op : Int) (n : Nat) (bc c : List EV) (nm0 : ByteArray) (a al u1 u2 : Bool) (cp : Option Nat) (g0 g1 g2 : Fld) (k0 v0 i0 x0 k1 v1 i1 x1 k2 v2 i2 x2 : Int) (n0 n1 n2 : Nat) (c0 c1 c2 : List EV)
set_option maxRecDepth 100000 in
set_option maxHeartbeats 16000000 in
theorem rest_0 (H : RH A I0 ρ0 w0 Q R op n bc c nm0 a al u1 u2 cp g0 g1 g2 k0 v0 i0 x0 k1 v1 i1 x1 k2 v2 i2 x2 n0 n1 n2 c0 c1 c2) (hop : 1 ≤ op ∧ op ≤ 4) (hn2 : n = 2)
    (y3 : ¬ (k1 = k0 ∧ 3 ≤ k0 ∧ k0 ≤ 11) → R = (fld0, 5)) (y4 : (k1 = k0 ∧ 3 ≤ k0 ∧ k0 ≤ 11) → mayF (named nm0 (a, g0)) → R = (named nm0 (a, g0), 0)) (y5 : (k1 = k0 ∧ 3 ≤ k0 ∧ k0 ≤ 11) → ¬ mayF (named nm0 (a, g0)) → R = (fld0, 5)) : RG A I0 ρ0 w0 Q R op n bc c nm0 a al u1 u2 cp g0 g1 g2 k0 v0 i0 x0 k1 v1 i1 x1 k2 v2 i2 x2 n0 n1 n2 c0 c1 c2 := by
  obtain ⟨hnm', hnm0, hk0, hk1, ht0, ht1, ht2, hu1, hu2, hal01, hal12, hok0, hok1, hsm0, hsm1, e0, e1, hA, hρ, hQ⟩ := H
  unfold RG
  have hmb := fun b h => mayN_ok (g0) hok0 nm0 hnm0 b _ _ _ _ _ _ e0 h
  with_reducible refine runS hA hd hQ 200 ?hk ?_
  case hk => exact trivial
  conv => arg 9; cbv
  try simp only [OK]
  repeat' first | (with_reducible refine OKK.loop ?_) | (with_reducible refine OKK.again ?_) | (with_reducible refine And.intro trivial ?_) | ((with_reducible refine opt_of (fun hop => ?_) (fun xop hop => ?_)) <;> (try simp (disch := omega) only [hA, OK, emaU, Int.reduceToNat, s_bat , Bool.not_eq_false', Bool.not_eq_true'] at hop)) | ((with_reducible refine ⟨fun hbr => ?_, fun hbr => ?_⟩) <;> (try simp (disch := omega) only [hA, OK, emaU, Int.reduceToNat, s_bat, reduceCtorEq , Bool.not_eq_false', Bool.not_eq_true'] at hbr) <;> (try (with_reducible exfalso; omega))) | ((with_reducible refine runK hA hd hQ 200 ?hk ?_); (case hk => exact trivial); (conv => arg 9; cbv); (try simp only [OK])) | ((with_reducible refine need_of ?hn ?_); (case hn => ((simp (disch := omega) only [hA, OK, emaU, Int.reduceToNat, s_bat , Bool.not_eq_false', Bool.not_eq_true']) <;> omega))) | ((refine ⟨_, _, ?l1, (hnm'), rfl, ?_⟩); (case l1 => exact rfl)) | ((refine ⟨_, _, ?l1, (hk1 (by omega)), rfl, ?_⟩); (case l1 => exact rfl)) | ((refine ⟨_, _, ?l1, (hk0 (by omega)), rfl, ?_⟩); (case l1 => exact rfl)) | ((refine ⟨_, _, ?l1, (ht0 (by omega)), rfl, ?_⟩); (case l1 => exact rfl)) | ((refine ⟨_, _, ?l1, (ht1 (by omega)), rfl, ?_⟩); (case l1 => exact rfl)) | (refine CallOK.of (goodF_of F13_ok) (Tri.mono (wholeR_ok _ _) fun v hh hx => ?_); (obtain ⟨⟨b, hv, hb⟩, he⟩ := hx; subst hv; subst he; cases b <;> simp (disch := omega) only [hA, OK, emaU, Int.reduceToNat, s_bat, Bool.false_eq_true, true_iff, false_iff, eq_self, reduceCtorEq , Bool.not_eq_false', Bool.not_eq_true'] at hb) <;> (try (with_reducible exfalso; omega))) | (refine CallOK.of (goodF_of F11_ok) (Tri.mono (hmb _ _) fun v hh hx => ?_); (obtain ⟨⟨b, hv, hb⟩, he⟩ := hx; subst hv; subst he; cases b <;> simp (disch := omega) only [hA, OK, emaU, Int.reduceToNat, s_bat, Bool.false_eq_true, true_iff, false_iff, eq_self, reduceCtorEq , Bool.not_eq_false', Bool.not_eq_true'] at hb) <;> (try (with_reducible exfalso; omega))) | ((refine CallOK.of (goodF_of F16_ok) (Tri.mono (copyT_ok g0 hsm0 _ _ _ _ _ _ e0 _) fun v hh hx => ?_)); (obtain ⟨hv, hh'⟩ := hx; subst hv; subst hh')) | fail
  all_goals first
    | exact FinR.doc0 rfl (y3 (by first | assumption | omega | (intro hh; omega) | exact fun hh => absurd hh.2 (by assumption)))
    | exact FinR.doc0 rfl (y5 (by first | assumption | omega | exact ⟨by omega, by assumption⟩) hb)
    | exact FinR.docv rfl (y4 (by first | assumption | omega | exact ⟨by omega, by assumption⟩) hb) e0
    | fail
set_option maxRecDepth 100000 in
set_option maxHeartbeats 16000000 in
theorem rest_1 (H : RH A I0 ρ0 w0 Q R op n bc c nm0 a al u1 u2 cp g0 g1 g2 k0 v0 i0 x0 k1 v1 i1 x1 k2 v2 i2 x2 n0 n1 n2 c0 c1 c2) (hop : op = 5) (hn2 : n = 2)
    (y3 : ¬ (k1 = k0 ∧ 3 ≤ k0 ∧ k0 ≤ 10) → R = (fld0, 5)) (y4 : (k1 = k0 ∧ 3 ≤ k0 ∧ k0 ≤ 10) → mayF (named nm0 (a, g0)) → R = (named nm0 (a, g0), 0)) (y5 : (k1 = k0 ∧ 3 ≤ k0 ∧ k0 ≤ 10) → ¬ mayF (named nm0 (a, g0)) → R = (fld0, 5)) : RG A I0 ρ0 w0 Q R op n bc c nm0 a al u1 u2 cp g0 g1 g2 k0 v0 i0 x0 k1 v1 i1 x1 k2 v2 i2 x2 n0 n1 n2 c0 c1 c2 := by
  obtain ⟨hnm', hnm0, hk0, hk1, ht0, ht1, ht2, hu1, hu2, hal01, hal12, hok0, hok1, hsm0, hsm1, e0, e1, hA, hρ, hQ⟩ := H
  unfold RG
  have hmb := fun b h => mayN_ok (g0) hok0 nm0 hnm0 b _ _ _ _ _ _ e0 h
  with_reducible refine runS hA hd hQ 200 ?hk ?_
  case hk => exact trivial
  conv => arg 9; cbv
  try simp only [OK]
  repeat' first | (with_reducible refine OKK.loop ?_) | (with_reducible refine OKK.again ?_) | (with_reducible refine And.intro trivial ?_) | ((with_reducible refine opt_of (fun hop => ?_) (fun xop hop => ?_)) <;> (try simp (disch := omega) only [hA, OK, emaU, Int.reduceToNat, s_bat , Bool.not_eq_false', Bool.not_eq_true'] at hop)) | ((with_reducible refine ⟨fun hbr => ?_, fun hbr => ?_⟩) <;> (try simp (disch := omega) only [hA, OK, emaU, Int.reduceToNat, s_bat, reduceCtorEq , Bool.not_eq_false', Bool.not_eq_true'] at hbr) <;> (try (with_reducible exfalso; omega))) | ((with_reducible refine runK hA hd hQ 200 ?hk ?_); (case hk => exact trivial); (conv => arg 9; cbv); (try simp only [OK])) | ((with_reducible refine need_of ?hn ?_); (case hn => ((simp (disch := omega) only [hA, OK, emaU, Int.reduceToNat, s_bat , Bool.not_eq_false', Bool.not_eq_true']) <;> omega))) | ((refine ⟨_, _, ?l1, (hnm'), rfl, ?_⟩); (case l1 => exact rfl)) | ((refine ⟨_, _, ?l1, (hk1 (by omega)), rfl, ?_⟩); (case l1 => exact rfl)) | ((refine ⟨_, _, ?l1, (hk0 (by omega)), rfl, ?_⟩); (case l1 => exact rfl)) | ((refine ⟨_, _, ?l1, (ht0 (by omega)), rfl, ?_⟩); (case l1 => exact rfl)) | ((refine ⟨_, _, ?l1, (ht1 (by omega)), rfl, ?_⟩); (case l1 => exact rfl)) | (refine CallOK.of (goodF_of F13_ok) (Tri.mono (wholeR_ok _ _) fun v hh hx => ?_); (obtain ⟨⟨b, hv, hb⟩, he⟩ := hx; subst hv; subst he; cases b <;> simp (disch := omega) only [hA, OK, emaU, Int.reduceToNat, s_bat, Bool.false_eq_true, true_iff, false_iff, eq_self, reduceCtorEq , Bool.not_eq_false', Bool.not_eq_true'] at hb) <;> (try (with_reducible exfalso; omega))) | (refine CallOK.of (goodF_of F11_ok) (Tri.mono (hmb _ _) fun v hh hx => ?_); (obtain ⟨⟨b, hv, hb⟩, he⟩ := hx; subst hv; subst he; cases b <;> simp (disch := omega) only [hA, OK, emaU, Int.reduceToNat, s_bat, Bool.false_eq_true, true_iff, false_iff, eq_self, reduceCtorEq , Bool.not_eq_false', Bool.not_eq_true'] at hb) <;> (try (with_reducible exfalso; omega))) | ((refine CallOK.of (goodF_of F16_ok) (Tri.mono (copyT_ok g0 hsm0 _ _ _ _ _ _ e0 _) fun v hh hx => ?_)); (obtain ⟨hv, hh'⟩ := hx; subst hv; subst hh')) | fail
  all_goals first
    | exact FinR.doc0 rfl (y3 (by first | assumption | omega | (intro hh; omega) | exact fun hh => absurd hh.2 (by assumption)))
    | exact FinR.doc0 rfl (y5 (by first | assumption | omega | exact ⟨by omega, by assumption⟩) hb)
    | exact FinR.docv rfl (y4 (by first | assumption | omega | exact ⟨by omega, by assumption⟩) hb) e0
    | fail
set_option maxRecDepth 100000 in
set_option maxHeartbeats 16000000 in
theorem rest_2 (H : RH A I0 ρ0 w0 Q R op n bc c nm0 a al u1 u2 cp g0 g1 g2 k0 v0 i0 x0 k1 v1 i1 x1 k2 v2 i2 x2 n0 n1 n2 c0 c1 c2) (hop : op = 6) (hn2 : n = 1)
    (y3 : ¬ (3 ≤ k0 ∧ k0 ≤ 6 ∨ k0 = 11) → R = (fld0, 5)) (y4 : (3 ≤ k0 ∧ k0 ≤ 6 ∨ k0 = 11) → mayF (named nm0 (a, g0)) → R = (named nm0 (a, g0), 0)) (y5 : (3 ≤ k0 ∧ k0 ≤ 6 ∨ k0 = 11) → ¬ mayF (named nm0 (a, g0)) → R = (fld0, 5)) : RG A I0 ρ0 w0 Q R op n bc c nm0 a al u1 u2 cp g0 g1 g2 k0 v0 i0 x0 k1 v1 i1 x1 k2 v2 i2 x2 n0 n1 n2 c0 c1 c2 := by
  obtain ⟨hnm', hnm0, hk0, hk1, ht0, ht1, ht2, hu1, hu2, hal01, hal12, hok0, hok1, hsm0, hsm1, e0, e1, hA, hρ, hQ⟩ := H
  unfold RG
  have hmb := fun b h => mayN_ok (g0) hok0 nm0 hnm0 b _ _ _ _ _ _ e0 h
  with_reducible refine runS hA hd hQ 200 ?hk ?_
  case hk => exact trivial
  conv => arg 9; cbv
  try simp only [OK]
  repeat' first | (with_reducible refine OKK.loop ?_) | (with_reducible refine OKK.again ?_) | (with_reducible refine And.intro trivial ?_) | ((with_reducible refine opt_of (fun hop => ?_) (fun xop hop => ?_)) <;> (try simp (disch := omega) only [hA, OK, emaU, Int.reduceToNat, s_bat , Bool.not_eq_false', Bool.not_eq_true'] at hop)) | ((with_reducible refine ⟨fun hbr => ?_, fun hbr => ?_⟩) <;> (try simp (disch := omega) only [hA, OK, emaU, Int.reduceToNat, s_bat, reduceCtorEq , Bool.not_eq_false', Bool.not_eq_true'] at hbr) <;> (try (with_reducible exfalso; omega))) | ((with_reducible refine runK hA hd hQ 200 ?hk ?_); (case hk => exact trivial); (conv => arg 9; cbv); (try simp only [OK])) | ((with_reducible refine need_of ?hn ?_); (case hn => ((simp (disch := omega) only [hA, OK, emaU, Int.reduceToNat, s_bat , Bool.not_eq_false', Bool.not_eq_true']) <;> omega))) | ((refine ⟨_, _, ?l1, (hnm'), rfl, ?_⟩); (case l1 => exact rfl)) | ((refine ⟨_, _, ?l1, (hk0 (by omega)), rfl, ?_⟩); (case l1 => exact rfl)) | ((refine ⟨_, _, ?l1, (ht0 (by omega)), rfl, ?_⟩); (case l1 => exact rfl)) | (refine CallOK.of (goodF_of F11_ok) (Tri.mono (hmb _ _) fun v hh hx => ?_); (obtain ⟨⟨b, hv, hb⟩, he⟩ := hx; subst hv; subst he; cases b <;> simp (disch := omega) only [hA, OK, emaU, Int.reduceToNat, s_bat, Bool.false_eq_true, true_iff, false_iff, eq_self, reduceCtorEq , Bool.not_eq_false', Bool.not_eq_true'] at hb) <;> (try (with_reducible exfalso; omega))) | ((refine CallOK.of (goodF_of F16_ok) (Tri.mono (copyT_ok g0 hsm0 _ _ _ _ _ _ e0 _) fun v hh hx => ?_)); (obtain ⟨hv, hh'⟩ := hx; subst hv; subst hh')) | fail
  all_goals first
    | exact FinR.doc0 rfl (y3 (by first | assumption | omega | (intro hh; omega) | exact fun hh => absurd hh.2 (by assumption)))
    | exact FinR.doc0 rfl (y5 (by first | assumption | omega | exact ⟨by omega, by assumption⟩) hb)
    | exact FinR.docv rfl (y4 (by first | assumption | omega | exact ⟨by omega, by assumption⟩) hb) e0
    | fail
end
end
section
-- emaX: s_bat
section
variable (A : Ar) (I0 : Imm) (ρ0 : Ren) (w0 : World) (Q : Exit → Act → World → Prop) (R : Fld × Int) (op : Int) (n : Nat) (bc c : List EV) (nm0 : ByteArray) (a al u1 u2 : Bool) (cp : Option Nat) (g0 g1 g2 : Fld) (k0 v0 i0 x0 k1 v1 i1 x1 k2 v2 i2 x2 : Int) (n0 n1 n2 : Nat) (c0 c1 c2 : List EV)
set_option maxRecDepth 100000 in
set_option maxHeartbeats 16000000 in
theorem rest_3 (H : RH A I0 ρ0 w0 Q R op n bc c nm0 a al u1 u2 cp g0 g1 g2 k0 v0 i0 x0 k1 v1 i1 x1 k2 v2 i2 x2 n0 n1 n2 c0 c1 c2) (hop : 7 ≤ op ∧ op ≤ 12) (hn2 : n = 2)
    (y3 : ¬ (alikeP g0 g1) → R = (fld0, 5)) (y4 : (alikeP g0 g1) → mayF (named nm0 (a, zt 2)) → R = (named nm0 (a, zt 2), 0)) (y5 : (alikeP g0 g1) → ¬ mayF (named nm0 (a, zt 2)) → R = (fld0, 5)) : RG A I0 ρ0 w0 Q R op n bc c nm0 a al u1 u2 cp g0 g1 g2 k0 v0 i0 x0 k1 v1 i1 x1 k2 v2 i2 x2 n0 n1 n2 c0 c1 c2 := by
  obtain ⟨hnm', hnm0, hk0, hk1, ht0, ht1, ht2, hu1, hu2, hal01, hal12, hok0, hok1, hsm0, hsm1, e0, e1, hA, hρ, hQ⟩ := H
  unfold RG
  have hmb := fun b h => mayN_ok (zt 2) hoz2 nm0 hnm0 b _ _ _ _ _ _ ez2 h
  with_reducible refine runS hA hd hQ 200 ?hk ?_
  case hk => exact trivial
  conv => arg 9; cbv
  try simp only [OK]
  repeat' first | (with_reducible refine OKK.loop ?_) | (with_reducible refine OKK.again ?_) | (with_reducible refine And.intro trivial ?_) | ((with_reducible refine opt_of (fun hop => ?_) (fun xop hop => ?_)) <;> (try simp (disch := omega) only [hA, OK, emaU, Int.reduceToNat, s_bat , Bool.not_eq_false', Bool.not_eq_true'] at hop)) | ((with_reducible refine ⟨fun hbr => ?_, fun hbr => ?_⟩) <;> (try simp (disch := omega) only [hA, OK, emaU, Int.reduceToNat, s_bat, reduceCtorEq , Bool.not_eq_false', Bool.not_eq_true'] at hbr) <;> (try (with_reducible exfalso; omega))) | ((with_reducible refine runK hA hd hQ 200 ?hk ?_); (case hk => exact trivial); (conv => arg 9; cbv); (try simp only [OK])) | ((with_reducible refine need_of ?hn ?_); (case hn => ((simp (disch := omega) only [hA, OK, emaU, Int.reduceToNat, s_bat , Bool.not_eq_false', Bool.not_eq_true']) <;> omega))) | ((refine ⟨_, _, ?l1, (hnm'), rfl, ?_⟩); (case l1 => exact rfl)) | ((refine ⟨_, _, ?l1, (hk1 (by omega)), rfl, ?_⟩); (case l1 => exact rfl)) | ((refine ⟨_, _, ?l1, (hk0 (by omega)), rfl, ?_⟩); (case l1 => exact rfl)) | ((refine ⟨_, _, ?l1, (ht0 (by omega)), rfl, ?_⟩); (case l1 => exact rfl)) | ((refine ⟨_, _, ?l1, (ht1 (by omega)), rfl, ?_⟩); (case l1 => exact rfl)) | (refine CallOK.of (goodF_of F14_ok) (Tri.mono (hal01 (by omega) _) fun v hh hx => ?_); (obtain ⟨⟨b, hv, hb⟩, he⟩ := hx; subst hv; subst he; cases b <;> simp (disch := omega) only [hA, OK, emaU, Int.reduceToNat, s_bat, Bool.false_eq_true, true_iff, false_iff, eq_self, reduceCtorEq , Bool.not_eq_false', Bool.not_eq_true'] at hb) <;> (try (with_reducible exfalso; omega))) | (refine CallOK.of (goodF_of F11_ok) (Tri.mono (hmb _ _) fun v hh hx => ?_); (obtain ⟨⟨b, hv, hb⟩, he⟩ := hx; subst hv; subst he; cases b <;> simp (disch := omega) only [hA, OK, emaU, Int.reduceToNat, s_bat, Bool.false_eq_true, true_iff, false_iff, eq_self, reduceCtorEq , Bool.not_eq_false', Bool.not_eq_true'] at hb) <;> (try (with_reducible exfalso; omega))) | ((refine CallOK.of (goodF_of F16_ok) (Tri.mono (copyNil_ok _) fun v hh hx => ?_)); (obtain ⟨hv, hh'⟩ := hx; subst hv; subst hh')) | fail
  all_goals first
    | exact FinR.doc0 rfl (y3 (by first | assumption | omega | (intro hh; omega) | exact fun hh => absurd hh.2 (by assumption)))
    | exact FinR.doc0 rfl (y5 (by first | assumption | omega | exact ⟨by omega, by assumption⟩) hb)
    | exact FinR.docv rfl (y4 (by first | assumption | omega | exact ⟨by omega, by assumption⟩) hb) ez2
    | fail
set_option maxRecDepth 100000 in
set_option maxHeartbeats 16000000 in
theorem rest_8 (H : RH A I0 ρ0 w0 Q R op n bc c nm0 a al u1 u2 cp g0 g1 g2 k0 v0 i0 x0 k1 v1 i1 x1 k2 v2 i2 x2 n0 n1 n2 c0 c1 c2) (hop : op = 18) (hn2 : n = 3)
    (y3 : ¬ (k0 = 2 ∧ alikeP g1 g2) → R = (fld0, 5)) (y4 : (k0 = 2 ∧ alikeP g1 g2) → mayF (named nm0 ((u1 || u2), g1)) → R = (named nm0 ((u1 || u2), g1), 0)) (y5 : (k0 = 2 ∧ alikeP g1 g2) → ¬ mayF (named nm0 ((u1 || u2), g1)) → R = (fld0, 5)) : RG A I0 ρ0 w0 Q R op n bc c nm0 a al u1 u2 cp g0 g1 g2 k0 v0 i0 x0 k1 v1 i1 x1 k2 v2 i2 x2 n0 n1 n2 c0 c1 c2 := by
  obtain ⟨hnm', hnm0, hk0, hk1, ht0, ht1, ht2, hu1, hu2, hal01, hal12, hok0, hok1, hsm0, hsm1, e0, e1, hA, hρ, hQ⟩ := H
  unfold RG
  have hmb := fun b h => mayN_ok (g1) hok1 nm0 hnm0 b _ _ _ _ _ _ e1 h
  cases u1 <;> cases u2
  all_goals
    with_reducible refine runS hA hd hQ 200 ?hk ?_
    case hk => exact trivial
    conv => arg 9; cbv
    try simp only [OK]
    repeat' first | (with_reducible refine OKK.loop ?_) | (with_reducible refine OKK.again ?_) | (with_reducible refine And.intro trivial ?_) | ((with_reducible refine opt_of (fun hop => ?_) (fun xop hop => ?_)) <;> (try simp (disch := omega) only [hA, OK, emaU, Int.reduceToNat, s_bat , Bool.not_eq_false', Bool.not_eq_true'] at hop)) | ((with_reducible refine ⟨fun hbr => ?_, fun hbr => ?_⟩) <;> (try simp (disch := omega) only [hA, OK, emaU, Int.reduceToNat, s_bat, reduceCtorEq , Bool.not_eq_false', Bool.not_eq_true'] at hbr) <;> (try (with_reducible exfalso; omega))) | ((with_reducible refine runK hA hd hQ 200 ?hk ?_); (case hk => exact trivial); (conv => arg 9; cbv); (try simp only [OK])) | ((with_reducible refine need_of ?hn ?_); (case hn => ((simp (disch := omega) only [hA, OK, emaU, Int.reduceToNat, s_bat , Bool.not_eq_false', Bool.not_eq_true']) <;> omega))) | ((refine ⟨_, _, ?l1, (hnm'), rfl, ?_⟩); (case l1 => exact rfl)) | ((refine ⟨_, _, ?l1, (hk1 (by omega)), rfl, ?_⟩); (case l1 => exact rfl)) | ((refine ⟨_, _, ?l1, (hk0 (by omega)), rfl, ?_⟩); (case l1 => exact rfl)) | ((refine ⟨_, _, ?l1, (ht0 (by omega)), rfl, ?_⟩); (case l1 => exact rfl)) | ((refine ⟨_, _, ?l1, (ht1 (by omega)), rfl, ?_⟩); (case l1 => exact rfl)) | ((refine ⟨_, _, ?l1, (ht2 (by omega)), rfl, ?_⟩); (case l1 => exact rfl)) | ((refine ⟨_, _, ?l1, (hu1 (by omega)), rfl, ?_⟩); (case l1 => exact rfl)) | ((refine ⟨_, _, ?l1, (hu2 (by omega)), rfl, ?_⟩); (case l1 => exact rfl)) | (refine CallOK.of (goodF_of F14_ok) (Tri.mono (hal12 (by omega) _) fun v hh hx => ?_); (obtain ⟨⟨b, hv, hb⟩, he⟩ := hx; subst hv; subst he; cases b <;> simp (disch := omega) only [hA, OK, emaU, Int.reduceToNat, s_bat, Bool.false_eq_true, true_iff, false_iff, eq_self, reduceCtorEq , Bool.not_eq_false', Bool.not_eq_true'] at hb) <;> (try (with_reducible exfalso; omega))) | (refine CallOK.of (goodF_of F11_ok) (Tri.mono (hmb _ _) fun v hh hx => ?_); (obtain ⟨⟨b, hv, hb⟩, he⟩ := hx; subst hv; subst he; cases b <;> simp (disch := omega) only [hA, OK, emaU, Int.reduceToNat, s_bat, Bool.false_eq_true, true_iff, false_iff, eq_self, reduceCtorEq , Bool.not_eq_false', Bool.not_eq_true'] at hb) <;> (try (with_reducible exfalso; omega))) | ((refine CallOK.of (goodF_of F16_ok) (Tri.mono (copyT_ok g1 hsm1 _ _ _ _ _ _ e1 _) fun v hh hx => ?_)); (obtain ⟨hv, hh'⟩ := hx; subst hv; subst hh')) | fail
  all_goals first
    | exact FinR.doc0 rfl (y3 (by first | assumption | omega | (intro hh; omega) | exact fun hh => absurd hh.2 (by assumption)))
    | exact FinR.doc0 rfl (y5 (by first | assumption | omega | exact ⟨by omega, by assumption⟩) hb)
    | exact FinR.docv rfl (y4 (by first | assumption | omega | exact ⟨by omega, by assumption⟩) hb) e1
    | fail
end
end
section
-- emaX: s_bat
section
variable (A : Ar) (I0 : Imm) (ρ0 : Ren) (w0 : World) (Q : Exit → Act → World → Prop) (R : Fld × Int) (op : Int) (n : Nat) (bc c : List EV) (nm0 : ByteArray) (a al u1 u2 : Bool) (cp : Option Nat) (g0 g1 g2 : Fld) (k0 v0 i0 x0 k1 v1 i1 x1 k2 v2 i2 x2 : Int) (n0 n1 n2 : Nat) (c0 c1 c2 : List EV)
set_option maxRecDepth 100000 in
set_option maxHeartbeats 16000000 in
theorem rest_4 (H : RH A I0 ρ0 w0 Q R op n bc c nm0 a al u1 u2 cp g0 g1 g2 k0 v0 i0 x0 k1 v1 i1 x1 k2 v2 i2 x2 n0 n1 n2 c0 c1 c2) (hop : op = 13 ∨ op = 14) (hn2 : n = 2)
    (y3 : ¬ (k0 = 2 ∧ k1 = 2) → R = (fld0, 5)) (y4 : (k0 = 2 ∧ k1 = 2) → mayF (named nm0 (a, zt 2)) → R = (named nm0 (a, zt 2), 0)) (y5 : (k0 = 2 ∧ k1 = 2) → ¬ mayF (named nm0 (a, zt 2)) → R = (fld0, 5)) : RG A I0 ρ0 w0 Q R op n bc c nm0 a al u1 u2 cp g0 g1 g2 k0 v0 i0 x0 k1 v1 i1 x1 k2 v2 i2 x2 n0 n1 n2 c0 c1 c2 := by
  obtain ⟨hnm', hnm0, hk0, hk1, ht0, ht1, ht2, hu1, hu2, hal01, hal12, hok0, hok1, hsm0, hsm1, e0, e1, hA, hρ, hQ⟩ := H
  unfold RG
  have hmb := fun b h => mayN_ok (zt 2) hoz2 nm0 hnm0 b _ _ _ _ _ _ ez2 h
  with_reducible refine runS hA hd hQ 200 ?hk ?_
  case hk => exact trivial
  conv => arg 9; cbv
  try simp only [OK]
  repeat' first | (with_reducible refine OKK.loop ?_) | (with_reducible refine OKK.again ?_) | (with_reducible refine And.intro trivial ?_) | ((with_reducible refine opt_of (fun hop => ?_) (fun xop hop => ?_)) <;> (try simp (disch := omega) only [hA, OK, emaU, Int.reduceToNat, s_bat , Bool.not_eq_false', Bool.not_eq_true'] at hop)) | ((with_reducible refine ⟨fun hbr => ?_, fun hbr => ?_⟩) <;> (try simp (disch := omega) only [hA, OK, emaU, Int.reduceToNat, s_bat, reduceCtorEq , Bool.not_eq_false', Bool.not_eq_true'] at hbr) <;> (try (with_reducible exfalso; omega))) | ((with_reducible refine runK hA hd hQ 200 ?hk ?_); (case hk => exact trivial); (conv => arg 9; cbv); (try simp only [OK])) | ((with_reducible refine need_of ?hn ?_); (case hn => ((simp (disch := omega) only [hA, OK, emaU, Int.reduceToNat, s_bat , Bool.not_eq_false', Bool.not_eq_true']) <;> omega))) | ((refine ⟨_, _, ?l1, (hnm'), rfl, ?_⟩); (case l1 => exact rfl)) | ((refine ⟨_, _, ?l1, (hk1 (by omega)), rfl, ?_⟩); (case l1 => exact rfl)) | ((refine ⟨_, _, ?l1, (hk0 (by omega)), rfl, ?_⟩); (case l1 => exact rfl)) | ((refine ⟨_, _, ?l1, (ht0 (by omega)), rfl, ?_⟩); (case l1 => exact rfl)) | ((refine ⟨_, _, ?l1, (ht1 (by omega)), rfl, ?_⟩); (case l1 => exact rfl)) | (refine CallOK.of (goodF_of F11_ok) (Tri.mono (hmb _ _) fun v hh hx => ?_); (obtain ⟨⟨b, hv, hb⟩, he⟩ := hx; subst hv; subst he; cases b <;> simp (disch := omega) only [hA, OK, emaU, Int.reduceToNat, s_bat, Bool.false_eq_true, true_iff, false_iff, eq_self, reduceCtorEq , Bool.not_eq_false', Bool.not_eq_true'] at hb) <;> (try (with_reducible exfalso; omega))) | ((refine CallOK.of (goodF_of F16_ok) (Tri.mono (copyNil_ok _) fun v hh hx => ?_)); (obtain ⟨hv, hh'⟩ := hx; subst hv; subst hh')) | fail
  all_goals first
    | exact FinR.doc0 rfl (y3 (by first | assumption | omega | (intro hh; omega) | exact fun hh => absurd hh.2 (by assumption)))
    | exact FinR.doc0 rfl (y5 (by first | assumption | omega | exact ⟨by omega, by assumption⟩) hb)
    | exact FinR.docv rfl (y4 (by first | assumption | omega | exact ⟨by omega, by assumption⟩) hb) ez2
    | fail
set_option maxRecDepth 100000 in
set_option maxHeartbeats 16000000 in
theorem rest_5 (H : RH A I0 ρ0 w0 Q R op n bc c nm0 a al u1 u2 cp g0 g1 g2 k0 v0 i0 x0 k1 v1 i1 x1 k2 v2 i2 x2 n0 n1 n2 c0 c1 c2) (hop : op = 15) (hn2 : n = 1)
    (y3 : ¬ (k0 = 2) → R = (fld0, 5)) (y4 : (k0 = 2) → mayF (named nm0 (a, zt 2)) → R = (named nm0 (a, zt 2), 0)) (y5 : (k0 = 2) → ¬ mayF (named nm0 (a, zt 2)) → R = (fld0, 5)) : RG A I0 ρ0 w0 Q R op n bc c nm0 a al u1 u2 cp g0 g1 g2 k0 v0 i0 x0 k1 v1 i1 x1 k2 v2 i2 x2 n0 n1 n2 c0 c1 c2 := by
  obtain ⟨hnm', hnm0, hk0, hk1, ht0, ht1, ht2, hu1, hu2, hal01, hal12, hok0, hok1, hsm0, hsm1, e0, e1, hA, hρ, hQ⟩ := H
  unfold RG
  have hmb := fun b h => mayN_ok (zt 2) hoz2 nm0 hnm0 b _ _ _ _ _ _ ez2 h
  with_reducible refine runS hA hd hQ 200 ?hk ?_
  case hk => exact trivial
  conv => arg 9; cbv
  try simp only [OK]
  repeat' first | (with_reducible refine OKK.loop ?_) | (with_reducible refine OKK.again ?_) | (with_reducible refine And.intro trivial ?_) | ((with_reducible refine opt_of (fun hop => ?_) (fun xop hop => ?_)) <;> (try simp (disch := omega) only [hA, OK, emaU, Int.reduceToNat, s_bat , Bool.not_eq_false', Bool.not_eq_true'] at hop)) | ((with_reducible refine ⟨fun hbr => ?_, fun hbr => ?_⟩) <;> (try simp (disch := omega) only [hA, OK, emaU, Int.reduceToNat, s_bat, reduceCtorEq , Bool.not_eq_false', Bool.not_eq_true'] at hbr) <;> (try (with_reducible exfalso; omega))) | ((with_reducible refine runK hA hd hQ 200 ?hk ?_); (case hk => exact trivial); (conv => arg 9; cbv); (try simp only [OK])) | ((with_reducible refine need_of ?hn ?_); (case hn => ((simp (disch := omega) only [hA, OK, emaU, Int.reduceToNat, s_bat , Bool.not_eq_false', Bool.not_eq_true']) <;> omega))) | ((refine ⟨_, _, ?l1, (hnm'), rfl, ?_⟩); (case l1 => exact rfl)) | ((refine ⟨_, _, ?l1, (hk0 (by omega)), rfl, ?_⟩); (case l1 => exact rfl)) | ((refine ⟨_, _, ?l1, (ht0 (by omega)), rfl, ?_⟩); (case l1 => exact rfl)) | (refine CallOK.of (goodF_of F11_ok) (Tri.mono (hmb _ _) fun v hh hx => ?_); (obtain ⟨⟨b, hv, hb⟩, he⟩ := hx; subst hv; subst he; cases b <;> simp (disch := omega) only [hA, OK, emaU, Int.reduceToNat, s_bat, Bool.false_eq_true, true_iff, false_iff, eq_self, reduceCtorEq , Bool.not_eq_false', Bool.not_eq_true'] at hb) <;> (try (with_reducible exfalso; omega))) | ((refine CallOK.of (goodF_of F16_ok) (Tri.mono (copyNil_ok _) fun v hh hx => ?_)); (obtain ⟨hv, hh'⟩ := hx; subst hv; subst hh')) | fail
  all_goals first
    | exact FinR.doc0 rfl (y3 (by first | assumption | omega | (intro hh; omega) | exact fun hh => absurd hh.2 (by assumption)))
    | exact FinR.doc0 rfl (y5 (by first | assumption | omega | exact ⟨by omega, by assumption⟩) hb)
    | exact FinR.docv rfl (y4 (by first | assumption | omega | exact ⟨by omega, by assumption⟩) hb) ez2
    | fail
set_option maxRecDepth 100000 in
set_option maxHeartbeats 16000000 in
theorem rest_6 (H : RH A I0 ρ0 w0 Q R op n bc c nm0 a al u1 u2 cp g0 g1 g2 k0 v0 i0 x0 k1 v1 i1 x1 k2 v2 i2 x2 n0 n1 n2 c0 c1 c2) (hop : op = 16) (hn2 : n = 1)
    (y4 : mayF (named nm0 (false, zt 2)) → R = (named nm0 (false, zt 2), 0)) (y5 : ¬ mayF (named nm0 (false, zt 2)) → R = (fld0, 5)) : RG A I0 ρ0 w0 Q R op n bc c nm0 a al u1 u2 cp g0 g1 g2 k0 v0 i0 x0 k1 v1 i1 x1 k2 v2 i2 x2 n0 n1 n2 c0 c1 c2 := by
  obtain ⟨hnm', hnm0, hk0, hk1, ht0, ht1, ht2, hu1, hu2, hal01, hal12, hok0, hok1, hsm0, hsm1, e0, e1, hA, hρ, hQ⟩ := H
  unfold RG
  have hmb := fun b h => mayN_ok (zt 2) hoz2 nm0 hnm0 b _ _ _ _ _ _ ez2 h
  with_reducible refine runS hA hd hQ 200 ?hk ?_
  case hk => exact trivial
  conv => arg 9; cbv
  try simp only [OK]
  repeat' first | (with_reducible refine OKK.loop ?_) | (with_reducible refine OKK.again ?_) | (with_reducible refine And.intro trivial ?_) | ((with_reducible refine opt_of (fun hop => ?_) (fun xop hop => ?_)) <;> (try simp (disch := omega) only [hA, OK, emaU, Int.reduceToNat, s_bat , Bool.not_eq_false', Bool.not_eq_true'] at hop)) | ((with_reducible refine ⟨fun hbr => ?_, fun hbr => ?_⟩) <;> (try simp (disch := omega) only [hA, OK, emaU, Int.reduceToNat, s_bat, reduceCtorEq , Bool.not_eq_false', Bool.not_eq_true'] at hbr) <;> (try (with_reducible exfalso; omega))) | ((with_reducible refine runK hA hd hQ 200 ?hk ?_); (case hk => exact trivial); (conv => arg 9; cbv); (try simp only [OK])) | ((with_reducible refine need_of ?hn ?_); (case hn => ((simp (disch := omega) only [hA, OK, emaU, Int.reduceToNat, s_bat , Bool.not_eq_false', Bool.not_eq_true']) <;> omega))) | ((refine ⟨_, _, ?l1, (hnm'), rfl, ?_⟩); (case l1 => exact rfl)) | ((refine ⟨_, _, ?l1, (hk0 (by omega)), rfl, ?_⟩); (case l1 => exact rfl)) | ((refine ⟨_, _, ?l1, (ht0 (by omega)), rfl, ?_⟩); (case l1 => exact rfl)) | (refine CallOK.of (goodF_of F11_ok) (Tri.mono (hmb _ _) fun v hh hx => ?_); (obtain ⟨⟨b, hv, hb⟩, he⟩ := hx; subst hv; subst he; cases b <;> simp (disch := omega) only [hA, OK, emaU, Int.reduceToNat, s_bat, Bool.false_eq_true, true_iff, false_iff, eq_self, reduceCtorEq , Bool.not_eq_false', Bool.not_eq_true'] at hb) <;> (try (with_reducible exfalso; omega))) | ((refine CallOK.of (goodF_of F16_ok) (Tri.mono (copyNil_ok _) fun v hh hx => ?_)); (obtain ⟨hv, hh'⟩ := hx; subst hv; subst hh')) | fail
  all_goals first
    | exact FinR.doc0 rfl (y5 hb)
    | exact FinR.docv rfl (y4 hb) ez2
    | fail
set_option maxRecDepth 100000 in
set_option maxHeartbeats 16000000 in
theorem rest_7 (H : RH A I0 ρ0 w0 Q R op n bc c nm0 a al u1 u2 cp g0 g1 g2 k0 v0 i0 x0 k1 v1 i1 x1 k2 v2 i2 x2 n0 n1 n2 c0 c1 c2) (hop : op = 17) (hn2 : n = 2)
    (y3 : ¬ (alikeP g0 g1) → R = (fld0, 5)) (y4 : (alikeP g0 g1) → mayF (named nm0 (al, g0)) → R = (named nm0 (al, g0), 0)) (y5 : (alikeP g0 g1) → ¬ mayF (named nm0 (al, g0)) → R = (fld0, 5)) : RG A I0 ρ0 w0 Q R op n bc c nm0 a al u1 u2 cp g0 g1 g2 k0 v0 i0 x0 k1 v1 i1 x1 k2 v2 i2 x2 n0 n1 n2 c0 c1 c2 := by
  obtain ⟨hnm', hnm0, hk0, hk1, ht0, ht1, ht2, hu1, hu2, hal01, hal12, hok0, hok1, hsm0, hsm1, e0, e1, hA, hρ, hQ⟩ := H
  unfold RG
  have hmb := fun b h => mayN_ok (g0) hok0 nm0 hnm0 b _ _ _ _ _ _ e0 h
  with_reducible refine runS hA hd hQ 200 ?hk ?_
  case hk => exact trivial
  conv => arg 9; cbv
  try simp only [OK]
  repeat' first | (with_reducible refine OKK.loop ?_) | (with_reducible refine OKK.again ?_) | (with_reducible refine And.intro trivial ?_) | ((with_reducible refine opt_of (fun hop => ?_) (fun xop hop => ?_)) <;> (try simp (disch := omega) only [hA, OK, emaU, Int.reduceToNat, s_bat , Bool.not_eq_false', Bool.not_eq_true'] at hop)) | ((with_reducible refine ⟨fun hbr => ?_, fun hbr => ?_⟩) <;> (try simp (disch := omega) only [hA, OK, emaU, Int.reduceToNat, s_bat, reduceCtorEq , Bool.not_eq_false', Bool.not_eq_true'] at hbr) <;> (try (with_reducible exfalso; omega))) | ((with_reducible refine runK hA hd hQ 200 ?hk ?_); (case hk => exact trivial); (conv => arg 9; cbv); (try simp only [OK])) | ((with_reducible refine need_of ?hn ?_); (case hn => ((simp (disch := omega) only [hA, OK, emaU, Int.reduceToNat, s_bat , Bool.not_eq_false', Bool.not_eq_true']) <;> omega))) | ((refine ⟨_, _, ?l1, (hnm'), rfl, ?_⟩); (case l1 => exact rfl)) | ((refine ⟨_, _, ?l1, (hk1 (by omega)), rfl, ?_⟩); (case l1 => exact rfl)) | ((refine ⟨_, _, ?l1, (hk0 (by omega)), rfl, ?_⟩); (case l1 => exact rfl)) | ((refine ⟨_, _, ?l1, (ht0 (by omega)), rfl, ?_⟩); (case l1 => exact rfl)) | ((refine ⟨_, _, ?l1, (ht1 (by omega)), rfl, ?_⟩); (case l1 => exact rfl)) | (refine CallOK.of (goodF_of F14_ok) (Tri.mono (hal01 (by omega) _) fun v hh hx => ?_); (obtain ⟨⟨b, hv, hb⟩, he⟩ := hx; subst hv; subst he; cases b <;> simp (disch := omega) only [hA, OK, emaU, Int.reduceToNat, s_bat, Bool.false_eq_true, true_iff, false_iff, eq_self, reduceCtorEq , Bool.not_eq_false', Bool.not_eq_true'] at hb) <;> (try (with_reducible exfalso; omega))) | (refine CallOK.of (goodF_of F11_ok) (Tri.mono (hmb _ _) fun v hh hx => ?_); (obtain ⟨⟨b, hv, hb⟩, he⟩ := hx; subst hv; subst he; cases b <;> simp (disch := omega) only [hA, OK, emaU, Int.reduceToNat, s_bat, Bool.false_eq_true, true_iff, false_iff, eq_self, reduceCtorEq , Bool.not_eq_false', Bool.not_eq_true'] at hb) <;> (try (with_reducible exfalso; omega))) | ((refine CallOK.of (goodF_of F16_ok) (Tri.mono (copyT_ok g0 hsm0 _ _ _ _ _ _ e0 _) fun v hh hx => ?_)); (obtain ⟨hv, hh'⟩ := hx; subst hv; subst hh')) | fail
  all_goals first
    | exact FinR.doc0 rfl (y3 (by first | assumption | omega | (intro hh; omega) | exact fun hh => absurd hh.2 (by assumption)))
    | exact FinR.doc0 rfl (y5 (by first | assumption | omega | exact ⟨by omega, by assumption⟩) hb)
    | exact FinR.docv rfl (y4 (by first | assumption | omega | exact ⟨by omega, by assumption⟩) hb) e0
    | fail
end
end
section
-- emaX: s_bat
section
variable (A : Ar) (I0 : Imm) (ρ0 : Ren) (w0 : World) (Q : Exit → Act → World → Prop) (R : Fld × Int) (op : Int) (n : Nat) (bc c : List EV) (nm0 : ByteArray) (a al u1 u2 : Bool) (cp : Option Nat) (g0 g1 g2 : Fld) (k0 v0 i0 x0 k1 v1 i1 x1 k2 v2 i2 x2 : Int) (n0 n1 n2 : Nat) (c0 c1 c2 : List EV)
set_option maxRecDepth 100000 in
set_option maxHeartbeats 16000000 in
theorem rest_9 (H : RH A I0 ρ0 w0 Q R op n bc c nm0 a al u1 u2 cp g0 g1 g2 k0 v0 i0 x0 k1 v1 i1 x1 k2 v2 i2 x2 n0 n1 n2 c0 c1 c2) (hop : op = 19) (hn2 : n = 2)
    (y3 : ¬ (k1 = k0 ∧ (k0 = 12 ∨ k0 = 13)) → R = (fld0, 5)) (y4 : (k1 = k0 ∧ (k0 = 12 ∨ k0 = 13)) → mayF (named nm0 (a, g0)) → R = (named nm0 (a, g0), 0)) (y5 : (k1 = k0 ∧ (k0 = 12 ∨ k0 = 13)) → ¬ mayF (named nm0 (a, g0)) → R = (fld0, 5)) : RG A I0 ρ0 w0 Q R op n bc c nm0 a al u1 u2 cp g0 g1 g2 k0 v0 i0 x0 k1 v1 i1 x1 k2 v2 i2 x2 n0 n1 n2 c0 c1 c2 := by
  obtain ⟨hnm', hnm0, hk0, hk1, ht0, ht1, ht2, hu1, hu2, hal01, hal12, hok0, hok1, hsm0, hsm1, e0, e1, hA, hρ, hQ⟩ := H
  unfold RG
  have hmb := fun b h => mayN_ok (g0) hok0 nm0 hnm0 b _ _ _ _ _ _ e0 h
  with_reducible refine runS hA hd hQ 200 ?hk ?_
  case hk => exact trivial
  conv => arg 9; cbv
  try simp only [OK]
  repeat' first | (with_reducible refine OKK.loop ?_) | (with_reducible refine OKK.again ?_) | (with_reducible refine And.intro trivial ?_) | ((with_reducible refine opt_of (fun hop => ?_) (fun xop hop => ?_)) <;> (try simp (disch := omega) only [hA, OK, emaU, Int.reduceToNat, s_bat , Bool.not_eq_false', Bool.not_eq_true'] at hop)) | ((with_reducible refine ⟨fun hbr => ?_, fun hbr => ?_⟩) <;> (try simp (disch := omega) only [hA, OK, emaU, Int.reduceToNat, s_bat, reduceCtorEq , Bool.not_eq_false', Bool.not_eq_true'] at hbr) <;> (try (with_reducible exfalso; omega))) | ((with_reducible refine runK hA hd hQ 200 ?hk ?_); (case hk => exact trivial); (conv => arg 9; cbv); (try simp only [OK])) | ((with_reducible refine need_of ?hn ?_); (case hn => ((simp (disch := omega) only [hA, OK, emaU, Int.reduceToNat, s_bat , Bool.not_eq_false', Bool.not_eq_true']) <;> omega))) | ((refine ⟨_, _, ?l1, (hnm'), rfl, ?_⟩); (case l1 => exact rfl)) | ((refine ⟨_, _, ?l1, (hk1 (by omega)), rfl, ?_⟩); (case l1 => exact rfl)) | ((refine ⟨_, _, ?l1, (hk0 (by omega)), rfl, ?_⟩); (case l1 => exact rfl)) | ((refine ⟨_, _, ?l1, (ht0 (by omega)), rfl, ?_⟩); (case l1 => exact rfl)) | ((refine ⟨_, _, ?l1, (ht1 (by omega)), rfl, ?_⟩); (case l1 => exact rfl)) | (refine CallOK.of (goodF_of F15_ok) (Tri.mono (textsR_ok _ _) fun v hh hx => ?_); (obtain ⟨⟨b, hv, hb⟩, he⟩ := hx; subst hv; subst he; cases b <;> simp (disch := omega) only [hA, OK, emaU, Int.reduceToNat, s_bat, Bool.false_eq_true, true_iff, false_iff, eq_self, reduceCtorEq , Bool.not_eq_false', Bool.not_eq_true'] at hb) <;> (try (with_reducible exfalso; omega))) | (refine CallOK.of (goodF_of F11_ok) (Tri.mono (hmb _ _) fun v hh hx => ?_); (obtain ⟨⟨b, hv, hb⟩, he⟩ := hx; subst hv; subst he; cases b <;> simp (disch := omega) only [hA, OK, emaU, Int.reduceToNat, s_bat, Bool.false_eq_true, true_iff, false_iff, eq_self, reduceCtorEq , Bool.not_eq_false', Bool.not_eq_true'] at hb) <;> (try (with_reducible exfalso; omega))) | ((refine CallOK.of (goodF_of F16_ok) (Tri.mono (copyT_ok g0 hsm0 _ _ _ _ _ _ e0 _) fun v hh hx => ?_)); (obtain ⟨hv, hh'⟩ := hx; subst hv; subst hh')) | fail
  all_goals first
    | exact FinR.doc0 rfl (y3 (by first | assumption | omega | (intro hh; omega) | exact fun hh => absurd hh.2 (by assumption)))
    | exact FinR.doc0 rfl (y5 (by first | assumption | omega | exact ⟨by omega, by assumption⟩) hb)
    | exact FinR.docv rfl (y4 (by first | assumption | omega | exact ⟨by omega, by assumption⟩) hb) e0
    | fail
set_option maxRecDepth 100000 in
set_option maxHeartbeats 16000000 in
theorem rest_10 (H : RH A I0 ρ0 w0 Q R op n bc c nm0 a al u1 u2 cp g0 g1 g2 k0 v0 i0 x0 k1 v1 i1 x1 k2 v2 i2 x2 n0 n1 n2 c0 c1 c2) (hop : op = 20) (hn2 : n = 1)
    (y3 : ¬ (12 ≤ k0 ∧ k0 ≤ 16) → R = (fld0, 5)) (y4 : (12 ≤ k0 ∧ k0 ≤ 16) → mayF (named nm0 (a, zt 6)) → R = (named nm0 (a, zt 6), 0)) (y5 : (12 ≤ k0 ∧ k0 ≤ 16) → ¬ mayF (named nm0 (a, zt 6)) → R = (fld0, 5)) : RG A I0 ρ0 w0 Q R op n bc c nm0 a al u1 u2 cp g0 g1 g2 k0 v0 i0 x0 k1 v1 i1 x1 k2 v2 i2 x2 n0 n1 n2 c0 c1 c2 := by
  obtain ⟨hnm', hnm0, hk0, hk1, ht0, ht1, ht2, hu1, hu2, hal01, hal12, hok0, hok1, hsm0, hsm1, e0, e1, hA, hρ, hQ⟩ := H
  unfold RG
  have hmb := fun b h => mayN_ok (zt 6) hoz6 nm0 hnm0 b _ _ _ _ _ _ ez6 h
  with_reducible refine runS hA hd hQ 200 ?hk ?_
  case hk => exact trivial
  conv => arg 9; cbv
  try simp only [OK]
  repeat' first | (with_reducible refine OKK.loop ?_) | (with_reducible refine OKK.again ?_) | (with_reducible refine And.intro trivial ?_) | ((with_reducible refine opt_of (fun hop => ?_) (fun xop hop => ?_)) <;> (try simp (disch := omega) only [hA, OK, emaU, Int.reduceToNat, s_bat , Bool.not_eq_false', Bool.not_eq_true'] at hop)) | ((with_reducible refine ⟨fun hbr => ?_, fun hbr => ?_⟩) <;> (try simp (disch := omega) only [hA, OK, emaU, Int.reduceToNat, s_bat, reduceCtorEq , Bool.not_eq_false', Bool.not_eq_true'] at hbr) <;> (try (with_reducible exfalso; omega))) | ((with_reducible refine runK hA hd hQ 200 ?hk ?_); (case hk => exact trivial); (conv => arg 9; cbv); (try simp only [OK])) | ((with_reducible refine need_of ?hn ?_); (case hn => ((simp (disch := omega) only [hA, OK, emaU, Int.reduceToNat, s_bat , Bool.not_eq_false', Bool.not_eq_true']) <;> omega))) | ((refine ⟨_, _, ?l1, (hnm'), rfl, ?_⟩); (case l1 => exact rfl)) | ((refine ⟨_, _, ?l1, (hk0 (by omega)), rfl, ?_⟩); (case l1 => exact rfl)) | ((refine ⟨_, _, ?l1, (ht0 (by omega)), rfl, ?_⟩); (case l1 => exact rfl)) | (refine CallOK.of (goodF_of F15_ok) (Tri.mono (textsR_ok _ _) fun v hh hx => ?_); (obtain ⟨⟨b, hv, hb⟩, he⟩ := hx; subst hv; subst he; cases b <;> simp (disch := omega) only [hA, OK, emaU, Int.reduceToNat, s_bat, Bool.false_eq_true, true_iff, false_iff, eq_self, reduceCtorEq , Bool.not_eq_false', Bool.not_eq_true'] at hb) <;> (try (with_reducible exfalso; omega))) | (refine CallOK.of (goodF_of F11_ok) (Tri.mono (hmb _ _) fun v hh hx => ?_); (obtain ⟨⟨b, hv, hb⟩, he⟩ := hx; subst hv; subst he; cases b <;> simp (disch := omega) only [hA, OK, emaU, Int.reduceToNat, s_bat, Bool.false_eq_true, true_iff, false_iff, eq_self, reduceCtorEq , Bool.not_eq_false', Bool.not_eq_true'] at hb) <;> (try (with_reducible exfalso; omega))) | ((refine CallOK.of (goodF_of F16_ok) (Tri.mono (copyNil_ok _) fun v hh hx => ?_)); (obtain ⟨hv, hh'⟩ := hx; subst hv; subst hh')) | fail
  all_goals first
    | exact FinR.doc0 rfl (y3 (by first | assumption | omega | (intro hh; omega) | exact fun hh => absurd hh.2 (by assumption)))
    | exact FinR.doc0 rfl (y5 (by first | assumption | omega | exact ⟨by omega, by assumption⟩) hb)
    | exact FinR.docv rfl (y4 (by first | assumption | omega | exact ⟨by omega, by assumption⟩) hb) ez6
    | fail
set_option maxRecDepth 100000 in
set_option maxHeartbeats 16000000 in
theorem rest_11 (H : RH A I0 ρ0 w0 Q R op n bc c nm0 a al u1 u2 cp g0 g1 g2 k0 v0 i0 x0 k1 v1 i1 x1 k2 v2 i2 x2 n0 n1 n2 c0 c1 c2) (hop : op = 21 ∨ op = 22) (hn2 : n = 2)
    (y3 : ¬ (k1 = k0 ∧ (k0 = 12 ∨ k0 = 13)) → R = (fld0, 5)) (y4 : (k1 = k0 ∧ (k0 = 12 ∨ k0 = 13)) → mayF (named nm0 (a, zt 2)) → R = (named nm0 (a, zt 2), 0)) (y5 : (k1 = k0 ∧ (k0 = 12 ∨ k0 = 13)) → ¬ mayF (named nm0 (a, zt 2)) → R = (fld0, 5)) : RG A I0 ρ0 w0 Q R op n bc c nm0 a al u1 u2 cp g0 g1 g2 k0 v0 i0 x0 k1 v1 i1 x1 k2 v2 i2 x2 n0 n1 n2 c0 c1 c2 := by
  obtain ⟨hnm', hnm0, hk0, hk1, ht0, ht1, ht2, hu1, hu2, hal01, hal12, hok0, hok1, hsm0, hsm1, e0, e1, hA, hρ, hQ⟩ := H
  unfold RG
  have hmb := fun b h => mayN_ok (zt 2) hoz2 nm0 hnm0 b _ _ _ _ _ _ ez2 h
  with_reducible refine runS hA hd hQ 200 ?hk ?_
  case hk => exact trivial
  conv => arg 9; cbv
  try simp only [OK]
  repeat' first | (with_reducible refine OKK.loop ?_) | (with_reducible refine OKK.again ?_) | (with_reducible refine And.intro trivial ?_) | ((with_reducible refine opt_of (fun hop => ?_) (fun xop hop => ?_)) <;> (try simp (disch := omega) only [hA, OK, emaU, Int.reduceToNat, s_bat , Bool.not_eq_false', Bool.not_eq_true'] at hop)) | ((with_reducible refine ⟨fun hbr => ?_, fun hbr => ?_⟩) <;> (try simp (disch := omega) only [hA, OK, emaU, Int.reduceToNat, s_bat, reduceCtorEq , Bool.not_eq_false', Bool.not_eq_true'] at hbr) <;> (try (with_reducible exfalso; omega))) | ((with_reducible refine runK hA hd hQ 200 ?hk ?_); (case hk => exact trivial); (conv => arg 9; cbv); (try simp only [OK])) | ((with_reducible refine need_of ?hn ?_); (case hn => ((simp (disch := omega) only [hA, OK, emaU, Int.reduceToNat, s_bat , Bool.not_eq_false', Bool.not_eq_true']) <;> omega))) | ((refine ⟨_, _, ?l1, (hnm'), rfl, ?_⟩); (case l1 => exact rfl)) | ((refine ⟨_, _, ?l1, (hk1 (by omega)), rfl, ?_⟩); (case l1 => exact rfl)) | ((refine ⟨_, _, ?l1, (hk0 (by omega)), rfl, ?_⟩); (case l1 => exact rfl)) | ((refine ⟨_, _, ?l1, (ht0 (by omega)), rfl, ?_⟩); (case l1 => exact rfl)) | ((refine ⟨_, _, ?l1, (ht1 (by omega)), rfl, ?_⟩); (case l1 => exact rfl)) | (refine CallOK.of (goodF_of F15_ok) (Tri.mono (textsR_ok _ _) fun v hh hx => ?_); (obtain ⟨⟨b, hv, hb⟩, he⟩ := hx; subst hv; subst he; cases b <;> simp (disch := omega) only [hA, OK, emaU, Int.reduceToNat, s_bat, Bool.false_eq_true, true_iff, false_iff, eq_self, reduceCtorEq , Bool.not_eq_false', Bool.not_eq_true'] at hb) <;> (try (with_reducible exfalso; omega))) | (refine CallOK.of (goodF_of F11_ok) (Tri.mono (hmb _ _) fun v hh hx => ?_); (obtain ⟨⟨b, hv, hb⟩, he⟩ := hx; subst hv; subst he; cases b <;> simp (disch := omega) only [hA, OK, emaU, Int.reduceToNat, s_bat, Bool.false_eq_true, true_iff, false_iff, eq_self, reduceCtorEq , Bool.not_eq_false', Bool.not_eq_true'] at hb) <;> (try (with_reducible exfalso; omega))) | ((refine CallOK.of (goodF_of F16_ok) (Tri.mono (copyNil_ok _) fun v hh hx => ?_)); (obtain ⟨hv, hh'⟩ := hx; subst hv; subst hh')) | fail
  all_goals first
    | exact FinR.doc0 rfl (y3 (by first | assumption | omega | (intro hh; omega) | exact fun hh => absurd hh.2 (by assumption)))
    | exact FinR.doc0 rfl (y5 (by first | assumption | omega | exact ⟨by omega, by assumption⟩) hb)
    | exact FinR.docv rfl (y4 (by first | assumption | omega | exact ⟨by omega, by assumption⟩) hb) ez2
    | fail
end
end
set_option maxRecDepth 100000 in
set_option maxHeartbeats 4000000 in
theorem typeDoc_rest (op : Int) (P : List PF) (n : Nat) (bc : List EV) (hLP : LP P n bc) (hokP : ∀ p ∈ P, okPF p) (hn : (n : Int) = argsN op) (hn0 : argsN op ≠ 0) (nm0 : ByteArray) (hnm0 : nm0.size ≤ 140737488351232) (c : List EV)
    (hnm : ∀ A, A = stdA → List.take 1 (List.drop (A.add (A.idx 0 0 7) 0) c) = [.lit (.string nm0)]) (a al : Bool) (ha1 : n = 1 → a = (P.getD 0 pf0).nul) (ha2 : n = 2 → a = ((P.getD 0 pf0).nul || (P.getD 1 pf0).nul)) (hal : n = 2 → al = ((P.getD 0 pf0).nul && (P.getD 1 pf0).nul)) (cp : Option Nat)
    (R : Fld × Int) (hR : R = endR nm0 (typeS op P)) (I0 : Imm) (ρ0 : Ren) (w0 : World) (Q : Exit → Act → World → Prop) (hρ : ρ0 = []) (hQ : EndsQ Tryz.prog gs I0 ρ0 w0 Q (FinR F5.rs fun v h' => ∃ v', DocV R v' ∧ Up v v')) :
    OKs Tryz.prog gs none I0 ρ0 w0 Q [.c (seqN 5 F5.body)] ⟨mkT 263 [(0, .lit (.int .i64 op)), (1, .isl n none c), (4, .ptr 0 0), (5, .lit (.int .i64 0)), (6, .sl 7 1 0 n cp), (7, .lit (.bool a)), (8, .lit (.bool al))], [.blk [.lit (.string ⟨#[]⟩), .lit (.bool false), .lit (.int .i64 0), .lit (.int .i64 0), .lit (.int .i64 0), .lit (.int .i64 0), .lit (.slice none 0 0)], .blk bc]⟩ := by
  have hcl : (1 ≤ op ∧ op ≤ 4) ∨ (op = 5) ∨ (op = 6) ∨ (7 ≤ op ∧ op ≤ 12) ∨ (op = 13 ∨ op = 14) ∨ (op = 15) ∨ (op = 16) ∨ (op = 17) ∨ (op = 18) ∨ (op = 19) ∨ (op = 20) ∨ (op = 21 ∨ op = 22) := by
    unfold argsN at hn0
    split at hn0
    · omega
    split at hn0
    · omega
    split at hn0 <;> omega
  have hnv : (n : Int) = if op = 6 ∨ op = 15 ∨ op = 16 ∨ op = 20 then 1 else if op = 18 then 3 else 2 := by
    rw [hn]; unfold argsN at hn0 ⊢; (repeat' split) <;> first | rfl | omega
  clear hn hn0
  have hg : ∀ j, j < n → okPF (P.getD j pf0) := fun j hj => hokP _ (pf_mem (by rw [← hLP.1]; exact hj))
  have hok : ∀ j, okF (P.getD j pf0).g := fun j => by
    by_cases hj : j < n
    · exact (hg j hj).1
    · rw [List.getD_eq_getElem?_getD, List.getElem?_eq_none (by have := hLP.1; omega)]; exact ⟨by decide, r0, r0, r0, r0, by decide, trivial⟩
  have hsm : ∀ j, smallF (P.getD j pf0).g := fun j => by
    by_cases hj : j < n
    · exact all_small (hg j hj).2.1
    · rw [List.getD_eq_getElem?_getD, List.getElem?_eq_none (by have := hLP.1; omega)]
      show smallF (.mk _ _ _ _ _ _ [])
      rw [smallF]; exact ⟨by simp, trivial⟩
  obtain ⟨A, hA⟩ : ∃ A, A = stdA := ⟨_, rfl⟩
  have hnm' := hnm A hA
  have hkl : ∀ j : Nat, j < n → List.take 1 (List.drop (A.add (A.add (A.idx 0 j 7) 2) 0) bc) = [.lit (.int .i64 (P.getD j pf0).g.kind)] := fun j hj => by rw [hA]; have := hLP.part (i := j) (o := 2) (k := 1) hj (by omega); rw [s_idx, Nat.zero_add]; exact this
  have htl : ∀ j : Nat, j < n → List.take 5 (List.drop (A.add (A.idx 0 j 7) 2) bc) = tyC (P.getD j pf0).g := fun j hj => by rw [hA]; have := hLP.part (i := j) (o := 2) (k := 5) hj (by omega); rw [s_idx, Nat.zero_add]; exact this
  have hul : ∀ j : Nat, j < n → List.take 1 (List.drop (A.add (A.idx 0 j 7) 1) bc) = [.lit (.bool (P.getD j pf0).nul)] := fun j hj => by rw [hA]; have := hLP.part (i := j) (o := 1) (k := 1) hj (by omega); rw [s_idx, Nat.zero_add]; exact this
  have hk0 := hkl 0
  have hk1 := hkl 1
  have ht0 := htl 0
  have ht1 := htl 1
  have ht2 := htl 2
  have hu1 := hul 1
  have hu2 := hul 2
  have hal01 : 1 < n → ∀ h : EH, Tri Tryz.prog gs 14 [.agg (tyC (P.getD 0 pf0).g), .agg (tyC (P.getD 1 pf0).g)] h fun v h' => IsP (alikeP (P.getD 0 pf0).g (P.getD 1 pf0).g) v ∧ h' = h := fun hj => alikeR_ok _ _ (hg 0 (by omega)).1 (hg 1 hj).1 (hg 0 (by omega)).2.2.2 (hg 1 hj).2.2.2
  have hal12 : 2 < n → ∀ h : EH, Tri Tryz.prog gs 14 [.agg (tyC (P.getD 1 pf0).g), .agg (tyC (P.getD 2 pf0).g)] h fun v h' => IsP (alikeP (P.getD 1 pf0).g (P.getD 2 pf0).g) v ∧ h' = h := fun hj => alikeR_ok _ _ (hg 1 (by omega)).1 (hg 2 hj).1 (hg 1 (by omega)).2.2.2 (hg 2 hj).2.2.2
  have haz := fun (h0 : 0 < n) (h1 : 2 ≤ (P.getD 0 pf0).g.kind) (h2 : (P.getD 0 pf0).g.kind ≤ 13) => named_zt (hg 0 h0).2.1 h1 h2 nm0
  have hok0 := hok 0
  have hok1 := hok 1
  have hsm0 := hsm 0
  have hsm1 := hsm 1
  unfold typeS at hR
  simp only at hR
  clear hkl htl hul hg hokP hok hsm hLP
  generalize (P.getD 0 pf0).nul = u0 at *
  generalize (P.getD 1 pf0).nul = u1 at *
  generalize (P.getD 2 pf0).nul = u2 at *
  generalize (P.getD 0 pf0).g = g0 at *
  generalize (P.getD 1 pf0).g = g1 at *
  generalize (P.getD 2 pf0).g = g2 at *
  have e0 : tyC g0 = [.lit (.int .i64 g0.kind), .lit (.int .i64 g0.width), .lit (.int .i64 g0.id), .lit (.int .i64 g0.idx), .isl g0.kids.length none (cellsFs g0.kids)] := rfl
  have e1 : tyC g1 = [.lit (.int .i64 g1.kind), .lit (.int .i64 g1.width), .lit (.int .i64 g1.id), .lit (.int .i64 g1.idx), .isl g1.kids.length none (cellsFs g1.kids)] := rfl
  have e2 : tyC g2 = [.lit (.int .i64 g2.kind), .lit (.int .i64 g2.width), .lit (.int .i64 g2.id), .lit (.int .i64 g2.idx), .isl g2.kids.length none (cellsFs g2.kids)] := rfl
  generalize g0.kind = k0, g0.width = v0, g0.id = i0, g0.idx = x0, g0.kids.length = n0, cellsFs g0.kids = c0 at *
  generalize g1.kind = k1, g1.width = v1, g1.id = i1, g1.idx = x1, g1.kids.length = n1, cellsFs g1.kids = c1 at *
  generalize g2.kind = k2, g2.width = v2, g2.id = i2, g2.idx = x2, g2.kids.length = n2, cellsFs g2.kids = c2 at *
  rw [e0] at ht0
  rw [e1] at ht1
  rw [e2] at ht2
  rw [e0, e1] at hal01
  rw [e1, e2] at hal12
  rcases hcl with hop | hop | hop | hop | hop | hop | hop | hop | hop | hop | hop | hop
  · rw [if_pos (by omega)] at hR
    have hn2 : n = 2 := by split at hnv <;> first | omega | (split at hnv <;> omega)
    refine rest_0 A I0 ρ0 w0 Q R op n bc c nm0 a al u1 u2 cp g0 g1 g2 k0 v0 i0 x0 k1 v1 i1 x1 k2 v2 i2 x2 n0 n1 n2 c0 c1 c2 ⟨hnm', hnm0, hk0, hk1, ht0, ht1, ht2, hu1, hu2, hal01, hal12, hok0, hok1, hsm0, hsm1, e0, e1, hA, hρ, hQ⟩ hop hn2 (fun hp => by rw [hR, if_neg hp]; rfl) (fun hp hm => by rw [← haz (by omega) (by omega) (by omega)] at hm ⊢; rw [hR, if_pos hp, ← ha2 hn2]; exact endR_yes hm) (fun hp hm => by rw [← haz (by omega) (by omega) (by omega)] at hm; rw [hR, if_pos hp, ← ha2 hn2]; exact endR_not hm)
  · rw [if_neg (by omega), if_pos (by omega)] at hR
    have hn2 : n = 2 := by split at hnv <;> first | omega | (split at hnv <;> omega)
    refine rest_1 A I0 ρ0 w0 Q R op n bc c nm0 a al u1 u2 cp g0 g1 g2 k0 v0 i0 x0 k1 v1 i1 x1 k2 v2 i2 x2 n0 n1 n2 c0 c1 c2 ⟨hnm', hnm0, hk0, hk1, ht0, ht1, ht2, hu1, hu2, hal01, hal12, hok0, hok1, hsm0, hsm1, e0, e1, hA, hρ, hQ⟩ hop hn2 (fun hp => by rw [hR, if_neg hp]; rfl) (fun hp hm => by rw [← haz (by omega) (by omega) (by omega)] at hm ⊢; rw [hR, if_pos hp, ← ha2 hn2]; exact endR_yes hm) (fun hp hm => by rw [← haz (by omega) (by omega) (by omega)] at hm; rw [hR, if_pos hp, ← ha2 hn2]; exact endR_not hm)
  · rw [if_neg (by omega), if_neg (by omega), if_pos (by omega)] at hR
    have hn2 : n = 1 := by split at hnv <;> first | omega | (split at hnv <;> omega)
    refine rest_2 A I0 ρ0 w0 Q R op n bc c nm0 a al u1 u2 cp g0 g1 g2 k0 v0 i0 x0 k1 v1 i1 x1 k2 v2 i2 x2 n0 n1 n2 c0 c1 c2 ⟨hnm', hnm0, hk0, hk1, ht0, ht1, ht2, hu1, hu2, hal01, hal12, hok0, hok1, hsm0, hsm1, e0, e1, hA, hρ, hQ⟩ hop hn2 (fun hp => by rw [hR, if_neg hp]; rfl) (fun hp hm => by rw [← haz (by omega) (by omega) (by omega)] at hm ⊢; rw [hR, if_pos hp, ← ha1 hn2]; exact endR_yes hm) (fun hp hm => by rw [← haz (by omega) (by omega) (by omega)] at hm; rw [hR, if_pos hp, ← ha1 hn2]; exact endR_not hm)
  · rw [if_neg (by omega), if_neg (by omega), if_neg (by omega), if_pos (by omega)] at hR
    have hn2 : n = 2 := by split at hnv <;> first | omega | (split at hnv <;> omega)
    refine rest_3 A I0 ρ0 w0 Q R op n bc c nm0 a al u1 u2 cp g0 g1 g2 k0 v0 i0 x0 k1 v1 i1 x1 k2 v2 i2 x2 n0 n1 n2 c0 c1 c2 ⟨hnm', hnm0, hk0, hk1, ht0, ht1, ht2, hu1, hu2, hal01, hal12, hok0, hok1, hsm0, hsm1, e0, e1, hA, hρ, hQ⟩ hop hn2 (fun hp => by rw [hR, if_neg hp]; rfl) (fun hp hm => by rw [hR, if_pos hp, ← ha2 hn2]; exact endR_yes hm) (fun hp hm => by rw [hR, if_pos hp, ← ha2 hn2]; exact endR_not hm)
  · rw [if_neg (by omega), if_neg (by omega), if_neg (by omega), if_neg (by omega), if_pos (by omega)] at hR
    have hn2 : n = 2 := by split at hnv <;> first | omega | (split at hnv <;> omega)
    refine rest_4 A I0 ρ0 w0 Q R op n bc c nm0 a al u1 u2 cp g0 g1 g2 k0 v0 i0 x0 k1 v1 i1 x1 k2 v2 i2 x2 n0 n1 n2 c0 c1 c2 ⟨hnm', hnm0, hk0, hk1, ht0, ht1, ht2, hu1, hu2, hal01, hal12, hok0, hok1, hsm0, hsm1, e0, e1, hA, hρ, hQ⟩ hop hn2 (fun hp => by rw [hR, if_neg hp]; rfl) (fun hp hm => by rw [hR, if_pos hp, ← ha2 hn2]; exact endR_yes hm) (fun hp hm => by rw [hR, if_pos hp, ← ha2 hn2]; exact endR_not hm)
  · rw [if_neg (by omega), if_neg (by omega), if_neg (by omega), if_neg (by omega), if_neg (by omega), if_pos (by omega)] at hR
    have hn2 : n = 1 := by split at hnv <;> first | omega | (split at hnv <;> omega)
    refine rest_5 A I0 ρ0 w0 Q R op n bc c nm0 a al u1 u2 cp g0 g1 g2 k0 v0 i0 x0 k1 v1 i1 x1 k2 v2 i2 x2 n0 n1 n2 c0 c1 c2 ⟨hnm', hnm0, hk0, hk1, ht0, ht1, ht2, hu1, hu2, hal01, hal12, hok0, hok1, hsm0, hsm1, e0, e1, hA, hρ, hQ⟩ hop hn2 (fun hp => by rw [hR, if_neg hp]; rfl) (fun hp hm => by rw [hR, if_pos hp, ← ha1 hn2]; exact endR_yes hm) (fun hp hm => by rw [hR, if_pos hp, ← ha1 hn2]; exact endR_not hm)
  · rw [if_neg (by omega), if_neg (by omega), if_neg (by omega), if_neg (by omega), if_neg (by omega), if_neg (by omega), if_pos (by omega)] at hR
    have hn2 : n = 1 := by split at hnv <;> first | omega | (split at hnv <;> omega)
    refine rest_6 A I0 ρ0 w0 Q R op n bc c nm0 a al u1 u2 cp g0 g1 g2 k0 v0 i0 x0 k1 v1 i1 x1 k2 v2 i2 x2 n0 n1 n2 c0 c1 c2 ⟨hnm', hnm0, hk0, hk1, ht0, ht1, ht2, hu1, hu2, hal01, hal12, hok0, hok1, hsm0, hsm1, e0, e1, hA, hρ, hQ⟩ hop hn2 (fun hm => by rw [hR]; exact endR_yes hm) (fun hm => by rw [hR]; exact endR_not hm)
  · rw [if_neg (by omega), if_neg (by omega), if_neg (by omega), if_neg (by omega), if_neg (by omega), if_neg (by omega), if_neg (by omega), if_pos (by omega)] at hR
    have hn2 : n = 2 := by split at hnv <;> first | omega | (split at hnv <;> omega)
    refine rest_7 A I0 ρ0 w0 Q R op n bc c nm0 a al u1 u2 cp g0 g1 g2 k0 v0 i0 x0 k1 v1 i1 x1 k2 v2 i2 x2 n0 n1 n2 c0 c1 c2 ⟨hnm', hnm0, hk0, hk1, ht0, ht1, ht2, hu1, hu2, hal01, hal12, hok0, hok1, hsm0, hsm1, e0, e1, hA, hρ, hQ⟩ hop hn2 (fun hp => by rw [hR, if_neg hp]; rfl) (fun hp hm => by rw [hR, if_pos hp, ← hal hn2]; exact endR_yes hm) (fun hp hm => by rw [hR, if_pos hp, ← hal hn2]; exact endR_not hm)
  · rw [if_neg (by omega), if_neg (by omega), if_neg (by omega), if_neg (by omega), if_neg (by omega), if_neg (by omega), if_neg (by omega), if_neg (by omega), if_pos (by omega)] at hR
    have hn2 : n = 3 := by split at hnv <;> first | omega | (split at hnv <;> omega)
    refine rest_8 A I0 ρ0 w0 Q R op n bc c nm0 a al u1 u2 cp g0 g1 g2 k0 v0 i0 x0 k1 v1 i1 x1 k2 v2 i2 x2 n0 n1 n2 c0 c1 c2 ⟨hnm', hnm0, hk0, hk1, ht0, ht1, ht2, hu1, hu2, hal01, hal12, hok0, hok1, hsm0, hsm1, e0, e1, hA, hρ, hQ⟩ hop hn2 (fun hp => by rw [hR, if_neg hp]; rfl) (fun hp hm => by rw [hR, if_pos hp]; exact endR_yes hm) (fun hp hm => by rw [hR, if_pos hp]; exact endR_not hm)
  · rw [if_neg (by omega), if_neg (by omega), if_neg (by omega), if_neg (by omega), if_neg (by omega), if_neg (by omega), if_neg (by omega), if_neg (by omega), if_neg (by omega), if_pos (by omega)] at hR
    have hn2 : n = 2 := by split at hnv <;> first | omega | (split at hnv <;> omega)
    refine rest_9 A I0 ρ0 w0 Q R op n bc c nm0 a al u1 u2 cp g0 g1 g2 k0 v0 i0 x0 k1 v1 i1 x1 k2 v2 i2 x2 n0 n1 n2 c0 c1 c2 ⟨hnm', hnm0, hk0, hk1, ht0, ht1, ht2, hu1, hu2, hal01, hal12, hok0, hok1, hsm0, hsm1, e0, e1, hA, hρ, hQ⟩ hop hn2 (fun hp => by rw [hR, if_neg hp]; rfl) (fun hp hm => by rw [← haz (by omega) (by omega) (by omega)] at hm ⊢; rw [hR, if_pos hp, ← ha2 hn2]; exact endR_yes hm) (fun hp hm => by rw [← haz (by omega) (by omega) (by omega)] at hm; rw [hR, if_pos hp, ← ha2 hn2]; exact endR_not hm)
  · rw [if_neg (by omega), if_neg (by omega), if_neg (by omega), if_neg (by omega), if_neg (by omega), if_neg (by omega), if_neg (by omega), if_neg (by omega), if_neg (by omega), if_neg (by omega), if_pos (by omega)] at hR
    have hn2 : n = 1 := by split at hnv <;> first | omega | (split at hnv <;> omega)
    refine rest_10 A I0 ρ0 w0 Q R op n bc c nm0 a al u1 u2 cp g0 g1 g2 k0 v0 i0 x0 k1 v1 i1 x1 k2 v2 i2 x2 n0 n1 n2 c0 c1 c2 ⟨hnm', hnm0, hk0, hk1, ht0, ht1, ht2, hu1, hu2, hal01, hal12, hok0, hok1, hsm0, hsm1, e0, e1, hA, hρ, hQ⟩ hop hn2 (fun hp => by rw [hR, if_neg hp]; rfl) (fun hp hm => by rw [hR, if_pos hp, ← ha1 hn2]; exact endR_yes hm) (fun hp hm => by rw [hR, if_pos hp, ← ha1 hn2]; exact endR_not hm)
  · rw [if_neg (by omega), if_neg (by omega), if_neg (by omega), if_neg (by omega), if_neg (by omega), if_neg (by omega), if_neg (by omega), if_neg (by omega), if_neg (by omega), if_neg (by omega), if_neg (by omega), if_pos (by omega)] at hR
    have hn2 : n = 2 := by split at hnv <;> first | omega | (split at hnv <;> omega)
    refine rest_11 A I0 ρ0 w0 Q R op n bc c nm0 a al u1 u2 cp g0 g1 g2 k0 v0 i0 x0 k1 v1 i1 x1 k2 v2 i2 x2 n0 n1 n2 c0 c1 c2 ⟨hnm', hnm0, hk0, hk1, ht0, ht1, ht2, hu1, hu2, hal01, hal12, hok0, hok1, hsm0, hsm1, e0, e1, hA, hρ, hQ⟩ hop hn2 (fun hp => by rw [hR, if_neg hp]; rfl) (fun hp hm => by rw [hR, if_pos hp, ← ha2 hn2]; exact endR_yes hm) (fun hp hm => by rw [hR, if_pos hp, ← ha2 hn2]; exact endR_not hm)
-- emaX: s_bat
def anyP (l : List PF) : Bool := l.any (·.nul)
def allP' (l : List PF) : Bool := l.all (·.nul)
theorem any_step {l : List Fld} {z : Nat} (h : z < l.length) : anyP ((l.take (z + 1)).map plF) = (anyP ((l.take z).map plF) || (plF (l.getD z fld0)).nul) := by
  rw [List.take_add_one, List.map_append, anyP, anyP, List.any_append, List.getD_eq_getElem?_getD, List.getElem?_eq_getElem h]
  simp
theorem all_step {l : List Fld} {z : Nat} (h : z < l.length) : allP' ((l.take (z + 1)).map plF) = (allP' ((l.take z).map plF) && (plF (l.getD z fld0)).nul) := by
  rw [List.take_add_one, List.map_append, allP', allP', List.all_append, List.getD_eq_getElem?_getD, List.getElem?_eq_getElem h]
  simp
theorem any1 {P : List PF} (h : P.length = 1) : anyP P = (P.getD 0 pf0).nul := by
  match P, h with
  | [p], _ => simp [anyP]
theorem any2 {P : List PF} (h : P.length = 2) : anyP P = ((P.getD 0 pf0).nul || (P.getD 1 pf0).nul) := by
  match P, h with
  | [p, q], _ => simp [anyP]
theorem all2 {P : List PF} (h : P.length = 2) : allP' P = ((P.getD 0 pf0).nul && (P.getD 1 pf0).nul) := by
  match P, h with
  | [p, q], _ => simp [allP']
set_option maxRecDepth 100000 in
set_option maxHeartbeats 16000000 in
theorem typeDoc_at (op : Int) (hop : i64r op) (l : List Fld) (hl : l.length ≤ 140737488351232) (hok : okFs l) :
    Tri Tryz.prog gs 5 [.lit (.int .i64 op), .isl l.length none (cellsFs l)] [] fun v h' => ∃ v', DocV (typeR op l) v' ∧ Up v v' := by
  have hall := all_getD (l := l) (q := mayF)
  have hNa : argsN op = 0 ∨ argsN op = 1 ∨ argsN op = 2 ∨ argsN op = 3 := by unfold argsN; (repeat' split) <;> omega
  have x1 := typeR_arg (op := op) (l := l)
  have x2 := typeR_bad (op := op) (l := l)
  have x3 := typeR_no (op := op) (l := l)
  have x4 := fun x => typeR_yes (op := op) (l := l) (x := x)
  have x5 := fun x => typeR_not (op := op) (l := l) (x := x)
  have hnm0 : l.length ≠ 0 → List.take 7 (List.drop (0 * 7) (cellsFs l)) = cellsF (l.getD 0 fld0) := fun h0 => fs_get l 0 (by omega)
  have hnmok : l.length ≠ 0 → (l.getD 0 fld0).nm.size ≤ 140737488351232 := fun h0 => okF_nm (okFs_mem hok (mem_getD (by omega)))
  have hargs := argsR_ok op
  generalize hR : typeR op l = R at *
  generalize hN : argsN op = N at *
  have hg := fs_get l
  have hstep := fun z => pf_step (l := l) (z := z)
  have hstepA := fun z => any_step (l := l) (z := z)
  have hstepL := fun z => all_step (l := l) (z := z)
  obtain ⟨n, hn⟩ : ∃ n, n = l.length := ⟨_, rfl⟩
  obtain ⟨c, hc⟩ : ∃ n, n = cellsFs l := ⟨_, rfl⟩
  rw [← hn, ← hc]
  refine Tri_of F5_ok fun I0 ρ0 w0 Q hρ hQ => ?_
  obtain ⟨A, hA⟩ : ∃ A, A = stdA := ⟨_, rfl⟩
  with_reducible refine runS hA hd hQ 1 ?hk ?_
  case hk => exact trivial
  conv => arg 9; cbv
  try simp only [OK]
  repeat' first | (with_reducible refine OKK.loop ?_) | (with_reducible refine OKK.again ?_) | (with_reducible refine OKK.stopB ?_) | ((with_reducible refine opt_of (fun hop => ?_) (fun xop hop => ?_)) <;> (try simp (disch := omega) only [hA, OK, emaU, Int.reduceToNat, s_bat] at hop)) | ((with_reducible refine ⟨fun hbr => ?_, fun hbr => ?_⟩) <;> (try simp (disch := omega) only [hA, OK, emaU, Int.reduceToNat, s_bat, reduceCtorEq] at hbr) <;> (try (with_reducible exfalso; omega))) | ((with_reducible refine runK hA hd hQ 1 ?hk ?_); (case hk => exact trivial); (conv => arg 9; cbv); (try simp only [OK])) | ((with_reducible refine need_of ?hn ?_); (case hn => ((simp (disch := omega) only [hA, OK, emaU, Int.reduceToNat, s_bat]) <;> omega))) | (refine CallOK.of (goodF_of F10_ok) (Tri.mono (hargs _) fun v hh hx => ?_); (obtain ⟨⟨z, hv, hz⟩, he⟩ := hx; subst hv; subst he)) | fail
  · exact FinR.doc0 rfl (x1 (by split at hz <;> omega))
  have hnN : (n : Int) = N ∧ N ≠ 0 := by split at hz <;> omega
  with_reducible refine runS hA hd hQ 5 ?hk ?_
  case hk => exact trivial
  conv => arg 9; cbv
  try simp only [OK]
  refine OKs.cut (fun st => ∃ (bn : Nat) (bc : List EV) (a al : Bool) (cp : Option Nat), (⟨maskT (msk 263 [0, 1, 4, 5, 6, 7, 8]) st.t, st.h⟩ : St) = ⟨mkT 263 [(0, .lit (.int .i64 op)), (1, .isl n none c), (4, .ptr 0 0), (5, .lit (.int .i64 0)), (6, .sl 7 1 0 bn cp), (7, .lit (.bool a)), (8, .lit (.bool al))], [.blk [.lit (.string ⟨#[]⟩), .lit (.bool false), .lit (.int .i64 0), .lit (.int .i64 0), .lit (.int .i64 0), .lit (.int .i64 0), .lit (.slice none 0 0)], .blk bc]⟩ ∧
    bn = n ∧ bc = cellsPF (l.map plF) ∧ a = anyP (l.map plF) ∧ al = allP' (l.map plF) ∧ ∀ f ∈ l, mayF f) ?_ ?_
  · with_reducible refine runS hA hd hQ 2 ?hk ?_
    case hk => exact trivial
    conv => arg 9; cbv
    try simp only [OK]
    refine OKs.mask (msk 263 [0, 1, 4, 5, 6, 7, 8, 9]) ?_
    refine OKs.loopN (fun m st => ∃ (z : Int) (bn : Nat) (bc : List EV) (a al : Bool), ((bn = 0 ∧ st = ⟨mkT 263 [(0, .lit (.int .i64 op)), (1, .isl n none c), (4, .ptr 0 0), (5, .lit (.int .i64 0)), (6, .sl 7 1 0 bn (some 0)), (7, .lit (.bool a)), (8, .lit (.bool al)), (9, .lit (.int .i64 z))], [.blk [.lit (.string ⟨#[]⟩), .lit (.bool false), .lit (.int .i64 0), .lit (.int .i64 0), .lit (.int .i64 0), .lit (.int .i64 0), .lit (.slice none 0 0)], .blk bc]⟩) ∨ st = ⟨mkT 263 [(0, .lit (.int .i64 op)), (1, .isl n none c), (4, .ptr 0 0), (5, .lit (.int .i64 0)), (6, .sl 7 1 0 bn none), (7, .lit (.bool a)), (8, .lit (.bool al)), (9, .lit (.int .i64 z))], [.blk [.lit (.string ⟨#[]⟩), .lit (.bool false), .lit (.int .i64 0), .lit (.int .i64 0), .lit (.int .i64 0), .lit (.int .i64 0), .lit (.slice none 0 0)], .blk bc]⟩) ∧
        m = (n - z).toNat ∧ 0 ≤ z ∧ z ≤ n ∧ bn = z.toNat ∧ bc = cellsPF ((l.take z.toNat).map plF) ∧ a = anyP ((l.take z.toNat).map plF) ∧ al = allP' ((l.take z.toNat).map plF) ∧ ∀ j, j < z.toNat → mayF (l.getD j fld0)) (fun m st hs' ih => ?_)
      ⟨0, 0, [], false, true, .inl ⟨rfl, rfl⟩, rfl, by omega, by omega, rfl, rfl, rfl, rfl, fun j hj => absurd hj (by simp)⟩
    obtain ⟨z, bn, bc, a, al, hst, hm, hz1, hz2, hbn, hbc, hav, halv, hmay⟩ := hs'
    have hst2 := allP_step (p := fun j => mayF (l.getD j fld0)) hz1 hmay
    have hbl : bc.length = 7 * bn := by rw [hbc, cellsPF_len, List.length_map, List.length_take]; omega
    have hmv : ∀ g z, mvL g z bc = bc := fun g z => mvL_cl _ _ _ (by rw [hbc]; exact clPF _)
    have hL : z < n → List.take 7 (List.drop (A.idx 0 z 7) c) = cellsF (l.getD z.toNat fld0) := fun hz => by rw [hA, s_idx, Nat.zero_add, hc, hg z.toNat (by omega)]
    have hof : z < n → okF (l.getD z.toNat fld0) := fun hz => okFs_mem hok (mem_getD (by omega))
    have hck : z < n → ∀ h : EH, Tri Tryz.prog gs 11 [.agg (cellsF (l.getD z.toNat fld0))] h fun v h' => IsP (mayF (l.getD z.toNat fld0)) v ∧ h' = h := fun hz => mayBeR_ok _ (hof hz)
    have hpl : z < n → mayF (l.getD z.toNat fld0) → ∀ h : EH, Tri Tryz.prog gs 12 [.agg (cellsF (l.getD z.toNat fld0))] h fun v h' => v = .agg (plF (l.getD z.toNat fld0)).cells ∧ h' = h := fun hz hy => plain17_ok _ (hof hz) hy
    have hs2 : z < n → cellsPF ((l.take (z.toNat + 1)).map plF) = bc ++ (plF (l.getD z.toNat fld0)).cells := fun hz => by rw [hbc]; exact hstep _ (by omega)
    have hs3 : z < n → anyP ((l.take (z.toNat + 1)).map plF) = (a || (plF (l.getD z.toNat fld0)).nul) := fun hz => by rw [hav]; exact hstepA _ (by omega)
    have hs4 : z < n → allP' ((l.take (z.toNat + 1)).map plF) = (al && (plF (l.getD z.toNat fld0)).nul) := fun hz => by rw [halv]; exact hstepL _ (by omega)
    have hxb : z < n → ¬ mayF (l.getD z.toNat fld0) → R = (fld0, 5) := fun hz hy => x2 (by omega) ⟨_, mem_getD (by omega), hy⟩
    have hall' : z = n → ∀ f ∈ l, mayF f := fun hz => hall fun j hj => hmay j (by omega)
    have hbe : z = n → bn = n ∧ bc = cellsPF (l.map plF) ∧ a = anyP (l.map plF) ∧ al = allP' (l.map plF) := fun hz => by
      rw [List.take_of_length_le (by omega)] at hbc hav halv
      exact ⟨by omega, hbc, hav, halv⟩
    clear hof
    generalize hq : plF (l.getD z.toNat fld0) = q at *
    generalize hM : mayF (l.getD z.toNat fld0) = M at *
    rw [cellsF_eq] at hL hck hpl
    generalize he' : l.getD z.toNat fld0 = e at *
    clear hq hM he'
    generalize e.nm = nm', e.nul = nul', e.kind = k', e.width = w', e.id = i', e.idx = x', e.kids.length = kn', cellsFs e.kids = kc' at *
    obtain ⟨qn, qu, qg⟩ := q
    simp only [PF.cells, tyC] at hpl hs2 hs3 hs4
    generalize qg.kind = k, qg.width = w, qg.id = i, qg.idx = x, qg.kids.length = kn, cellsFs qg.kids = kc at *
    clear hav halv
    rcases hst with ⟨h0, rfl⟩ | rfl <;> cases a <;> cases al
    all_goals
      with_reducible refine runS hA hd hQ 200 ?hk ?_
      case hk => exact trivial
      conv => arg 9; cbv
      try simp only [OK]
      repeat' first | (with_reducible refine OKK.loop ?_) | (with_reducible refine OKK.again ?_) | ((with_reducible refine opt_of (fun hop => ?_) (fun xop hop => ?_)) <;> (try simp (disch := omega) only [hA, OK, emaU, Int.reduceToNat, s_bat] at hop)) | ((with_reducible refine ⟨fun hbr => ?_, fun hbr => ?_⟩) <;> (try simp (disch := omega) only [hA, OK, emaU, Int.reduceToNat, s_bat, reduceCtorEq] at hbr) <;> (try (with_reducible exfalso; omega))) | ((with_reducible refine runK hA hd hQ 200 ?hk ?_); (case hk => exact trivial); (conv => arg 9; cbv); (try simp only [OK])) | ((with_reducible refine need_of ?hn ?_); (case hn => ((simp (disch := omega) only [hA, OK, emaU, Int.reduceToNat, s_bat]) <;> omega))) | ((refine ⟨_, _, ?l1, (hL (by omega)), rfl, ?_⟩); (case l1 => exact rfl)) | (refine CallOK.of (goodF_of F11_ok) (Tri.mono (hck (by omega) _) fun v hh hx => ?_); (obtain ⟨⟨b, hv, hb⟩, he⟩ := hx; subst hv; subst he; cases b <;> simp (disch := omega) only [hA, OK, emaU, Int.reduceToNat, s_bat, Bool.false_eq_true, true_iff, false_iff, eq_self, reduceCtorEq] at hb) <;> (try (with_reducible exfalso; omega))) | fail
    all_goals try exact FinR.doc0 rfl (hxb (by omega) hb)
    all_goals try
      refine CallOK.of (goodF_of F12_ok) (Tri.mono (hpl (by omega) hb _) fun v hh hx => ?_)
      obtain ⟨hv, hh'⟩ := hx
      subst hv; subst hh'
      with_reducible refine runK hA hd hQ 1 ?hk ?_
      case hk => exact trivial
      conv => arg 9; cbv
      try simp only [OK]
      repeat' first | (with_reducible refine OKK.loop ?_) | (with_reducible refine OKK.again ?_) | ((with_reducible refine opt_of (fun hop => ?_) (fun xop hop => ?_)) <;> (try simp (disch := omega) only [hA, OK, emaU, Int.reduceToNat, s_bat] at hop)) | ((with_reducible refine ⟨fun hbr => ?_, fun hbr => ?_⟩) <;> (try simp (disch := omega) only [hA, OK, emaU, Int.reduceToNat, s_bat, reduceCtorEq] at hbr) <;> (try (with_reducible exfalso; omega))) | ((with_reducible refine runK hA hd hQ 200 ?hk ?_); (case hk => exact trivial); (conv => arg 9; cbv); (try simp only [OK])) | ((with_reducible refine need_of ?hn ?_); (case hn => ((simp (disch := omega) only [hA, OK, emaU, Int.reduceToNat, s_bat]) <;> omega))) | fail
    all_goals try exact ⟨_, _, _, _, _, rfl, (hbe (by omega)).1, (hbe (by omega)).2.1, (hbe (by omega)).2.2.1, (hbe (by omega)).2.2.2, hall' (by omega)⟩
    all_goals
      have hz1' : (A.ib .add .i64 z 1).toNat = z.toNat + 1 := by simp (disch := omega) only [hA, OK, emaU, Int.reduceToNat, s_bat]; omega
      have hpush : A.app (A.tak (A.mul bn 7) (A.drp 0 bc)) (A.tak (A.mul 1 7) (A.drp 0 [.lit (.string qn), .lit (.bool qu), .lit (.int .i64 k), .lit (.int .i64 w), .lit (.int .i64 i), .lit (.int .i64 x), .isl kn none kc])) = bc ++ [.lit (.string qn), .lit (.bool qu), .lit (.int .i64 k), .lit (.int .i64 w), .lit (.int .i64 i), .lit (.int .i64 x), .isl kn none kc] := by
        rw [hA]
        simp only [s_app, s_tak, s_drp, s_mulN, List.drop_zero]
        rw [List.take_of_length_le (by omega)]
        rfl
      refine OKs.mask (msk 263 [0, 1, 4, 5, 6, 7, 8, 9]) (OKs.mv [0, 4] [] (by rw [hρ]; rfl) ⟨by decide, by simp [sizeH], by simp⟩ (ih _ _ ⟨A.ib .add .i64 z 1, _, _, _, _, .inr rfl, rfl, ?_, ?_, ?_, ?_, ?_, ?_, ?_⟩ ?_))
      · simp (disch := omega) only [hA, OK, emaU, Int.reduceToNat, s_bat]; omega
      · simp (disch := omega) only [hA, OK, emaU, Int.reduceToNat, s_bat]; omega
      · rw [hz1', hA]; show bn + 1 = _; omega
      · rw [hz1', hs2 (by omega)]
        exact (congrArg _ hpush).trans (mvL_cl _ _ _ (by rw [← hs2 (by omega)]; exact clPF _))
      · rw [hz1', hs3 (by omega)]; rfl
      · rw [hz1', hs4 (by omega)]; rfl
      · rw [hz1', show z.toNat + 1 = (z + 1).toNat by omega]; exact hst2 hb
      · simp (disch := omega) only [hA, OK, emaU, Int.reduceToNat, s_bat]; omega
  · rintro s' ⟨bn, bc, a, al, cp, hst, hbn, hbc, hav, halv, hmf⟩
    refine OKs.mask (msk 263 [0, 1, 4, 5, 6, 7, 8]) ?_
    rw [hst, hbn]
    have hPl : (l.map plF).length = n := by simp [hn]
    refine typeDoc_rest op (l.map plF) n bc ?_ ?_ (by omega) (by omega) (l.getD 0 fld0).nm (hnmok (by omega)) c ?_ a al (fun h1 => ?_) (fun h2 => ?_) (fun h2 => ?_) cp R ?_ I0 ρ0 w0 Q ?_ hQ
    · have := LP.of (l := l.map plF) (by rw [hPl]; omega)
      rw [hPl] at this
      rw [hbc]; exact this
    · intro p hp
      obtain ⟨f, hf, rfl⟩ := List.mem_map.1 hp
      exact (plF_ok (okFs_mem hok hf) (hmf f hf)).1
    · intro A' hA'
      rw [hA', hc]
      have := hnm0 (by omega)
      show List.take 1 (List.drop 0 (cellsFs l)) = _
      rw [Nat.zero_mul] at this
      have h2 := congrArg (List.take 1) this
      rw [List.take_take, cellsF_eq] at h2
      exact h2
    · rw [hav]; exact any1 (by omega)
    · rw [hav]; exact any2 (by omega)
    · rw [halv]; exact all2 (by omega)
    · rw [← hR]; exact typeR_end (by omega) hmf
    · exact List.length_eq_zero_iff.1 hρ
theorem typeDoc_ok (op : Int) (hop : i64r op) (l : List Fld) (hl : l.length ≤ 140737488351232) (hok : okFs l) (h : EH) :
    Tri Tryz.prog gs 5 [.lit (.int .i64 op), .isl l.length none (cellsFs l)] h fun v h' => DocV (typeR op l) v ∧ h' = h :=
  Tri.litC (φ := DocV (typeR op l)) (fun v hv => hv.cl) rfl (Tri.up (typeDoc_at op hop l hl hok) fun v h' ⟨v', h1, h2⟩ => ⟨v', h1, h2⟩) h
end Go.Proofs.YtmckingimnhoaaaGreatDoor.Stats
