/- YtmckingimnhoaaaGreatDoorMd: the texts St10, St11, St12, brought together. No conditions. -/
import Derived.Test.YtmckingimnhoaaaGreatDoorMc
import Derived.Test.YtmckingimnhoaaaGreatDoorX38
set_option linter.unusedVariables false
set_option linter.unusedSimpArgs false
namespace Go.Proofs.YtmckingimnhoaaaGreatDoor.Stats
open Go Go.Proofs.YtmckingimnhoaaaGreatDoor Go.Proofs.YtmckingimnhoaaaGreatDoor.Em
-- emaX: s_bat, s_rep1, s_setl, List.length_replicate
theorem s_rep1 (x : EV) (n : Nat) : stdA.rep [x] n = List.replicate n x := by
  simp only [s_rep]
  induction n with
  | zero => rfl
  | succ n ih => simp [List.replicate_succ, ih]
theorem clL_mem {l : List EV} (h : clL l = true) (x : EV) (hx : x ∈ l) : clE x = true := by
  obtain ⟨j, hj⟩ := List.getElem?_of_mem hx
  exact clL_get h j x hj
theorem clL_setl {c v : List EV} (o : Nat) (hc : clL c = true) (hv : clL v = true) : clL (stdA.setl c o v) = true := clL_of fun x hx => by
  rw [s_setl] at hx
  rcases List.mem_append.1 hx with hx | hx
  · rcases List.mem_append.1 hx with hx | hx
    · exact clL_mem hc x (List.mem_of_mem_take hx)
    · exact clL_mem hv x hx
  · exact clL_mem hc x (List.mem_of_mem_drop hx)
theorem clL_rep1 (n : Nat) (x : EV) (h : clE x = true) : clL (stdA.rep [x] n) = true := clL_of fun y hy => by
  rw [s_rep1] at hy
  rw [List.eq_of_mem_replicate hy]; exact h
theorem clL_tak {c : List EV} (n : Nat) (hc : clL c = true) : clL (stdA.tak n c) = true := clL_of fun x hx => clL_mem hc x (List.mem_of_mem_take hx)
theorem nodesFs_app (path : List Nat) (inD : Bool) : ∀ (l m a : List Fld), nodesFs path a inD (l ++ m) = nodesFs path a inD l ++ nodesFs path (a ++ l) inD m
  | [], m, a => by simp [nodesFs]
  | f :: l, m, a => by
    have := nodesFs_app path inD l m (a ++ [f])
    simp only [List.cons_append, nodesFs, this, List.append_assoc, List.nil_append]
theorem nodesFs_step (path : List Nat) (inD : Bool) (l : List Fld) (z : Nat) (h : z < l.length) : nodesFs path [] inD (l.take (z + 1)) = nodesFs path [] inD (l.take z) ++ nodesF path (l.take z) inD (l.getD z fld0) := by
  rw [List.take_add_one, nodesFs_app, List.getElem?_eq_getElem h, List.getD_eq_getElem?_getD, List.getElem?_eq_getElem h]
  simp [nodesFs]
theorem ds_app (l m : List Nd) : cellsDs (l ++ m) = cellsDs l ++ cellsDs m := by
  induction l with
  | nil => rfl
  | cons f l ih => simp [cellsDs, ih]
theorem ds_push {A : Ar} (hA : A = stdA) {ds : List Nd} {bn : Nat} {bc x : List EV} (hbn : bn = ds.length) (hbc : bc = cellsDs ds) (nd : Nd) (hx : x = cellsD nd) :
    A.app (A.tak (A.mul bn 10) (A.drp 0 bc)) (A.tak (A.mul 1 10) (A.drp 0 x)) = cellsDs (ds ++ [nd]) := by
  subst hx; subst hbc; subst hbn
  rw [hA]
  simp only [s_app, s_tak, s_drp, s_mulN, List.drop_zero]
  rw [List.take_of_length_le (by rw [ds_length]; omega), List.take_of_length_le (by rw [cellsD_length]; decide), ds_app]
  simp [cellsDs]
theorem ds_push1 {A : Ar} (hA : A = stdA) {ds : List Nd} (h0 : ds = []) {x : List EV} (nd : Nd) (hx : x = cellsD nd) :
    A.tak (A.mul 1 10) (A.drp 0 x) = cellsDs (ds ++ [nd]) := by
  subst hx; subst h0
  rw [hA]
  simp only [s_tak, s_drp, s_mulN, List.drop_zero]
  rw [List.take_of_length_le (by rw [cellsD_length]; decide)]
  simp [cellsDs]
theorem take_more {α : Type} (a b : List α) (n : Nat) (h : n ≤ (a.take n).length) : (a ++ b).take n = a.take n := by
  simp at h
  rw [List.take_append_of_le_length (by omega)]
theorem okFs_get : ∀ {l : List Fld}, okFs l → ∀ (z : Nat), z < l.length → okF (l.getD z fld0)
  | [], _, z, h => by simp at h
  | f :: l, h, 0, _ => h.1
  | f :: l, h, z + 1, hz => okFs_get h.2 z (by simpa using hz)
def GrowR (all : List Pl) (v : EV) (h : EH) : Prop := ∃ (ds : List Nd) (bn : Nat) (bc : List EV), bn = ds.length ∧ bc = cellsDs ds ∧ ds.map Nd.p = all ∧ (∀ d ∈ ds, okD d) ∧
  ((v = .sl 10 0 0 bn none ∧ h = [.blk bc]) ∨ (v = .sl 10 1 0 bn none ∧ h = [.dead, .blk bc]))
def GrowR0 (all : List Pl) (v : EV) (h : EH) : Prop := ∃ (ds : List Nd) (bn : Nat) (bc : List EV), bn = ds.length ∧ bc = cellsDs ds ∧ ds.map Nd.p = all ∧ (∀ d ∈ ds, okD d) ∧
  ((v = .sl 10 0 0 bn none ∧ ∃ t, h = .blk bc :: t) ∨ (v = .sl 10 1 0 bn none ∧ ∃ t, h = .dead :: .blk bc :: t))
theorem clDs : ∀ l : List Nd, clL (cellsDs l) = true
  | [] => rfl
  | d :: l => by
    rw [cellsDs]
    refine clL_of fun x hx => ?_
    rcases List.mem_append.1 hx with hx | hx
    · simp only [cellsD, List.mem_cons, List.not_mem_nil, or_false] at hx
      rcases hx with rfl | rfl | rfl | rfl | rfl | rfl | rfl | rfl | rfl | rfl <;> rfl
    · exact clL_mem (clDs l) x hx
theorem GrowR0.done {all : List Pl} {v : EV} {h' h : EH} (hs : sizeH h = 1) (hr : GrowR0 all v h') : ∃ σ fr, σ.take (sizeH h) = List.range (sizeH h) ∧ okMv σ fr h' ∧ GrowR all (mvE (mvG σ fr) (mvZ fr h') v) (mvH σ fr h' σ) := by
  obtain ⟨ds, bn, bc, h1, h2, h3, h4, h5⟩ := hr
  have hcl : ∀ g z, mvL g z bc = bc := fun g z => mvL_cl _ _ _ (by rw [h2]; exact clDs ds)
  rw [hs]
  rcases h5 with ⟨hv, t, ht⟩ | ⟨hv, t, ht⟩ <;> subst hv <;> subst ht
  · exact ⟨[0], [], rfl, ⟨by simp, by simp [sizeH], by simp⟩, ds, bn, bc, h1, h2, h3, h4, .inl ⟨rfl, by simp [mvH, getH, mvO, inL, hcl]⟩⟩
  · exact ⟨[0, 1], [], rfl, ⟨by simp, by simp [sizeH], by simp⟩, ds, bn, bc, h1, h2, h3, h4, .inr ⟨rfl, by simp [mvH, getH, mvO, inL, hcl]⟩⟩
theorem GrowR0.stop {prev all : List Pl} {ds : List Nd} {bn : Nat} {bc : List EV} {h : EH} {v : EV} (more : List Pl) (e : prev ++ more = all) (hbn : bn = ds.length) (hbc : bc = cellsDs ds) (hds : ds.map Nd.p = prev.take 257) (hok : ∀ d ∈ ds, okD d) (hn : more = [] ∨ 257 ≤ bn)
    (hv : (v = .sl 10 0 0 bn none ∧ ∃ t, h = .blk bc :: t) ∨ (v = .sl 10 1 0 bn none ∧ ∃ t, h = .dead :: .blk bc :: t)) : GrowR0 (all.take 257) v h := by
  subst e
  refine ⟨ds, bn, bc, hbn, hbc, ?_, hok, hv⟩
  rcases hn with rfl | hn
  · simpa using hds
  · rw [take_more _ _ _ (by rw [← hds]; simpa [← hbn] using hn), hds]
abbrev GrowT0 (bn : Nat) (bc : List EV) (v : EV) (h : EH) : Prop := (bn = 0 ∧ v = .lit (.slice none 0 0) ∧ h = []) ∨ (v = .sl 10 0 0 bn none ∧ ∃ t, h = .blk bc :: t)
def GrowTR0 (all : List Pl) (v : EV) (h : EH) : Prop := ∃ (ds : List Nd) (bn : Nat) (bc : List EV), bn = ds.length ∧ bc = cellsDs ds ∧ ds.map Nd.p = all ∧ (∀ d ∈ ds, okD d) ∧ GrowT0 bn bc v h
def GrowT (all : List Pl) (v : EV) (h : EH) : Prop := ∃ (ds : List Nd) (bn : Nat) (bc : List EV), bn = ds.length ∧ bc = cellsDs ds ∧ ds.map Nd.p = all ∧ (∀ d ∈ ds, okD d) ∧
  ((bn = 0 ∧ v = .lit (.slice none 0 0) ∧ h = []) ∨ (v = .sl 10 0 0 bn none ∧ h = [.blk bc]))
theorem GrowTR0.done {all : List Pl} {v : EV} {h' h : EH} (hs : sizeH h = 0) (hr : GrowTR0 all v h') : ∃ σ fr, σ.take (sizeH h) = List.range (sizeH h) ∧ okMv σ fr h' ∧ GrowT all (mvE (mvG σ fr) (mvZ fr h') v) (mvH σ fr h' σ) := by
  obtain ⟨ds, bn, bc, h1, h2, h3, h4, h5⟩ := hr
  have hcl : ∀ g z, mvL g z bc = bc := fun g z => mvL_cl _ _ _ (by rw [h2]; exact clDs ds)
  rw [hs]
  rcases h5 with ⟨h0, hv, ht⟩ | ⟨hv, t, ht⟩ <;> subst hv <;> subst ht
  · exact ⟨[], [], rfl, ⟨by simp, by simp [sizeH], by simp⟩, ds, bn, bc, h1, h2, h3, h4, .inl ⟨h0, rfl, rfl⟩⟩
  · exact ⟨[0], [], rfl, ⟨by simp, by simp [sizeH], by simp⟩, ds, bn, bc, h1, h2, h3, h4, .inr ⟨rfl, by simp [mvH, getH, mvO, inL, hcl]⟩⟩
theorem GrowTR0.stop {prev all : List Pl} {ds : List Nd} {bn : Nat} {bc : List EV} {h : EH} {v : EV} (more : List Pl) (e : prev ++ more = all) (hbn : bn = ds.length) (hbc : bc = cellsDs ds) (hds : ds.map Nd.p = prev.take 257) (hok : ∀ d ∈ ds, okD d) (hn : more = [] ∨ 257 ≤ bn)
    (hv : GrowT0 bn bc v h) : GrowTR0 (all.take 257) v h := by
  subst e
  refine ⟨ds, bn, bc, hbn, hbc, ?_, hok, hv⟩
  rcases hn with rfl | hn
  · simpa using hds
  · rw [take_more _ _ _ (by rw [← hds]; simpa [← hbn] using hn), hds]
theorem sub2a (a b c : EO) {x : List EV} (h : ∀ g z, mvL g z x = x) : subH [2] [a, b, c] [.blk x] = [a, b, .blk x] := by
  show [a, b, EO.blk (mvL _ _ x)] = _
  rw [h]
theorem sub2b (a b c : EO) {x : List EV} (h : ∀ g z, mvL g z x = x) : subH [2] [a, b, c] [.dead, .blk x] = [a, b, .dead, .blk x] := by
  show [a, b, EO.dead, EO.blk (mvL _ _ x)] = _
  rw [h]
theorem grow_one {X : List Pl} {ds : List Nd} {nd : Nd} (hds : ds.map Nd.p = X.take 257) (h : ds.length ≤ 256) : (ds ++ [nd]).map Nd.p = X ++ [nd.p] := by
  have h1 : (X.take 257).length = ds.length := by rw [← hds]; simp
  rw [List.length_take] at h1
  rw [List.map_append, hds, List.take_of_length_le (by omega)]
  rfl
theorem sub3a (a b c d : EO) {x : List EV} (h : ∀ g z, mvL g z x = x) : subH [3] [a, b, c, d] [.blk x] = [a, b, c, .blk x] := by
  show [a, b, c, EO.blk (mvL _ _ x)] = _
  rw [h]
theorem sub3b (a b c d : EO) {x : List EV} (h : ∀ g z, mvL g z x = x) : subH [3] [a, b, c, d] [.dead, .blk x] = [a, b, c, .dead, .blk x] := by
  show [a, b, c, EO.dead, EO.blk (mvL _ _ x)] = _
  rw [h]
theorem sub4a (e a b c d : EO) {x : List EV} (h : ∀ g z, mvL g z x = x) : subH [4] [e, a, b, c, d] [.blk x] = [e, a, b, c, .blk x] := by
  show [e, a, b, c, EO.blk (mvL _ _ x)] = _
  rw [h]
theorem sub4b (e a b c d : EO) {x : List EV} (h : ∀ g z, mvL g z x = x) : subH [4] [e, a, b, c, d] [.dead, .blk x] = [e, a, b, c, .dead, .blk x] := by
  show [e, a, b, c, EO.dead, EO.blk (mvL _ _ x)] = _
  rw [h]
set_option maxRecDepth 100000 in
set_option maxHeartbeats 8000000 in
theorem grow_more : ∀ (lev : Nat) (l : List Fld) (path : List Nat) (pc : List EV) (inD : Bool) (prev : List Nd) (N M n0 : Nat) (bc0 lc : List EV), 65 ≤ path.length + lev → path.length ≤ 64 → pc.length = path.length → clL pc = true → okFs l → l.length ≤ 140737488351232 → (∀ d ∈ prev, okD d) → prev.length ≤ 257 →
    N = path.length → M = prev.length → bc0 = cellsDs prev → n0 = l.length → lc = cellsFs l → Tri Tryz.prog gs 74 [.isl n0 none lc, .isl N none pc, .sb inD, .sl 10 0 0 M none] [.blk bc0] fun v h' => GrowR ((prev.map Nd.p ++ nodesFs path [] inD l).take 257) v h' := by
  intro lev
  induction lev with
  | zero => intro l path pc inD prev N M n0 bc0 lc h1 h2; omega
  | succ lev ihl =>
  intro l path pc inD prev pn M n0 bc0 lc hlev hp64 hpc hpc2 hokl hll hokp hpl hN hM hbc0 hn0 hlc
  refine Tri.mv (R := GrowR0 ((prev.map Nd.p ++ nodesFs path [] inD l).take 257)) (Tri_of F74_ok fun I0 ρ0 w0 Q hρ hQ => ?_) fun v h' hr => hr.done rfl
  obtain ⟨A, hA⟩ : ∃ A, A = stdA := ⟨_, rfl⟩
  with_reducible refine runS hA hd hQ 200 ?hk ?_
  case hk => exact trivial
  conv => arg 9; cbv
  try simp only [OK]
  repeat' first | (with_reducible refine OKK.loop ?_) | (with_reducible refine OKK.again ?_) | ((with_reducible refine ⟨fun hbr => ?_, fun hbr => ?_⟩) <;> (try simp (disch := omega) only [hA, OK, emaU, Int.reduceToNat, s_bat, s_rep1, s_setl, List.length_replicate, reduceCtorEq] at hbr) <;> (try (with_reducible exfalso; omega))) | ((with_reducible refine runK hA hd hQ 200 ?hk ?_); (case hk => exact trivial); (conv => arg 9; cbv); (try simp only [OK])) | ((with_reducible refine need_of ?hn ?_); (case hn => ((simp (disch := omega) only [hA, OK, emaU, Int.reduceToNat, s_bat, s_rep1, s_setl, List.length_replicate]) <;> omega))) | fail
  refine OKs.mask (msk 63 [0, 1, 2, 3, 12, 13, 14]) ?_
  refine OKs.loopN (fun n st => ∃ (z : Int) (ds : List Nd) (bn : Nat) (bc : List EV), (st = ⟨mkT 63 [(0, .isl n0 none lc), (1, .isl pn none pc), (2, .sb inD), (3, .sl 10 0 0 bn none), (12, .isl n0 none lc), (13, .lit (.int .i64 (A.ofn n0))), (14, .lit (.int .i64 z))], [.blk bc]⟩ ∨ st = ⟨mkT 63 [(0, .isl n0 none lc), (1, .isl pn none pc), (2, .sb inD), (3, .sl 10 1 0 bn none), (12, .isl n0 none lc), (13, .lit (.int .i64 (A.ofn n0))), (14, .lit (.int .i64 z))], [.dead, .blk bc]⟩) ∧ n = (n0 - z).toNat ∧ 0 ≤ z ∧ z ≤ n0 ∧ bn = ds.length ∧ bc = cellsDs ds ∧ ds.map Nd.p = (prev.map Nd.p ++ nodesFs path [] inD (l.take z.toNat)).take 257 ∧ ∀ d ∈ ds, okD d) (fun n st hs' ih => ?_) ⟨0, prev, M, bc0, .inl rfl, rfl, by omega, by omega, hM, hbc0, by rw [show (0 : Int).toNat = 0 from rfl, List.take_zero, nodesFs, List.append_nil, List.take_of_length_le (by simp; omega)], hokp⟩
  obtain ⟨z, ds, bn, bc, hst, hnn, hz1, hz2, hbn, hbc, hds, hdok⟩ := hs'
  have hmv : ∀ g z, mvL g z bc = bc := fun g z => mvL_cl _ _ _ (by rw [hbc]; exact clDs ds)
  have hbl : bc.length = 10 * bn := by rw [hbc, hbn, ds_length]
  have hdl : ds.length ≤ 257 := by rw [show ds.length = (ds.map Nd.p).length by simp, hds]; simp; omega
  have hsplit : (prev.map Nd.p ++ nodesFs path [] inD (l.take z.toNat)) ++ nodesFs path (l.take z.toNat) inD (l.drop z.toNat) = prev.map Nd.p ++ nodesFs path [] inD l := by
    conv => rhs; rw [← List.take_append_drop z.toNat l, nodesFs_app]
    simp
  have hend : ¬ z < n0 → nodesFs path (l.take z.toNat) inD (l.drop z.toNat) = [] := fun h => by rw [List.drop_eq_nil_of_le (by omega)]; rfl
  obtain ⟨f, hf⟩ : ∃ f, f = l.getD z.toNat fld0 := ⟨_, rfl⟩
  have hLf : z < n0 → List.take 7 (List.drop (A.idx 0 z 7) lc) = cellsF f := fun hz => by rw [hA, hlc, hf, ← fs_get l z.toNat (by omega), s_idx, Nat.zero_add]
  have hokf : z < n0 → okF f := fun hz => by rw [hf]; exact okFs_get hokl _ (by omega)
  obtain ⟨nm, nul, k, w, i, x, kids⟩ := f
  simp only [cellsF] at hLf
  obtain ⟨kn, hkn⟩ : ∃ n, n = kids.length := ⟨_, rfl⟩
  obtain ⟨kc, hkc⟩ : ∃ c, c = cellsFs kids := ⟨_, rfl⟩
  rw [← hkn, ← hkc] at hLf
  rcases hst with rfl | rfl
  ·
    have hdl0 : ds.length ≤ 257 := hdl
    with_reducible refine runS hA hd hQ 1 ?hk ?_
    case hk => exact trivial
    conv => arg 9; cbv
    try simp only [OK]
    repeat' first | (with_reducible refine OKK.loop ?_) | (with_reducible refine OKK.again ?_) | (with_reducible refine OKK.stopS (some 35) ?_) | (with_reducible refine OKK.stopO (some 35) ?_) | ((with_reducible refine ⟨fun hbr => ?_, fun hbr => ?_⟩) <;> (try simp (disch := omega) only [hA, OK, emaU, Int.reduceToNat, s_bat, s_rep1, s_setl, List.length_replicate, reduceCtorEq] at hbr) <;> (try (with_reducible exfalso; omega))) | ((with_reducible refine runK hA hd hQ 1 ?hk ?_); (case hk => exact trivial); (conv => arg 9; cbv); (try simp only [OK])) | ((with_reducible refine need_of ?hn ?_); (case hn => ((simp (disch := omega) only [hA, OK, emaU, Int.reduceToNat, s_bat, s_rep1, s_setl, List.length_replicate]) <;> omega))) | ((refine ⟨_, _, ?l1, (hLf (by omega)), rfl, ?_⟩); (case l1 => exact rfl)) | fail
    all_goals try ((with_reducible refine FinR.self ?_); refine FinR.intro rfl (GrowR0.stop _ hsplit hbn hbc hds hdok (by first | exact .inr (by omega) | exact .inl (hend (by omega))) (.inl ⟨rfl, _, rfl⟩)))
    refine OKs.mask (msk 63 [0, 1, 2, 3, 9, 10, 11, 12, 13, 14]) ?_
    refine OKs.mv [0, 1] [2] (by rw [hρ]; rfl) ⟨by decide, by simp [sizeH], fun id hid => by simp at hid; subst hid; exact ⟨_, rfl, by rw [hA]; exact clL_setl _ (clL_setl _ (clL_rep1 _ _ rfl) (clL_tak _ (clL_tak _ hpc2))) rfl⟩⟩ ?_
    simp only [mvSt, mvH, getH, mvO, hmv]
    obtain ⟨wn, hwn⟩ : ∃ n, n = A.tn (A.ib .add .i64 (A.ofn pn) 1) := ⟨_, rfl⟩
    obtain ⟨wc, hwc⟩ : ∃ c, c = A.setl (A.setl (A.rep [.lit (.int .i64 0)] (A.tn (A.ib .add .i64 (A.ofn pn) 1))) 0 (A.tak (A.mul (A.nmin pn (A.tn (A.ib .add .i64 (A.ofn pn) 1))) 1) (A.tak (A.mul pn 1) pc))) (A.idx 0 (A.ofn pn) 1) [.lit (.int .i64 z)] := ⟨_, rfl⟩
    refine OKs.up 11 (.isl wn none wc) (by rw [hwn, hwc]; exact Up.cap _ _ _) ?_
    have hwn1 : wn = pn + 1 := by rw [hwn, hA, s_tn, s_ofn, s_add _ _ (by omega) (by omega)]; omega
    have hwc1 : wc.length = pn + 1 := by
      rw [hwc]; simp (disch := omega) only [hA, OK, emaU, Int.reduceToNat, s_bat, s_rep1, s_setl, List.length_replicate , Int.toNat_natCast]; omega
    have hwc2 : clL wc = true := by rw [hwc, hA]; exact clL_setl _ (clL_setl _ (clL_rep1 _ _ rfl) (clL_tak _ (clL_tak _ hpc2))) rfl
    clear hwn hwc
    obtain ⟨nd, hnd⟩ : ∃ nd : Nd, nd = ⟨⟨path ++ [(l.take z.toNat).length], l.take z.toNat, .mk nm nul k w i x kids, inD⟩, none, wc, l.drop z.toNat⟩ := ⟨_, rfl⟩
    have htk : (l.take z.toNat).length = z.toNat := by rw [List.length_take]; omega
    have hpl1 : (path ++ [(l.take z.toNat).length]).length = pn + 1 := by simp [hN]
    have hkok := hokf (by assumption)
    have hds1 := grow_one (nd := nd) hds (by omega)
    have hcell : [.isl wn none wc, .lit (.string nm), .lit (.bool nul), .lit (.int .i64 k), .lit (.int .i64 w), .lit (.int .i64 i), .lit (.int .i64 x), .isl kn none kc, .isl (A.sub (A.tn z) (A.tn 0)) none (A.drp (A.mul (A.tn 0) 7) lc), .sb inD] = cellsD nd := by
      rw [hnd, cellsD]
      simp only [nm_mk, nul_mk, kind_mk, width_mk, id_mk, idx_mk, kids_mk, hA, s_tn, s_subN, s_drp, s_mulN, List.take_append_drop, List.length_append, List.length_cons, List.length_nil, htk, Int.reduceToNat, Nat.zero_mul, List.drop_zero, Nat.sub_zero, ← hlc, ← hkn, ← hkc, hwn1, hN]
    have hpush := ds_push hA hbn hbc nd hcell
    have hndok : okD nd := by rw [hnd]; exact ⟨by simp only [List.length_append, List.length_cons, List.length_nil]; omega, by simp only [htk]; omega, hokf (by assumption)⟩
    have hdok1 : ∀ d ∈ ds ++ [nd], okD d := fun d hd => (List.mem_append.1 hd).elim (hdok d) fun h => by rw [List.mem_singleton.1 h]; exact hndok
    have hndp : nd.p = ⟨path ++ [(l.take z.toNat).length], l.take z.toNat, .mk nm nul k w i x kids, inD⟩ := by rw [hnd]
    have hstep := nodesFs_step path inD l z.toNat (by omega)
    rw [← hf, nodesF, ← hndp] at hstep
    with_reducible refine runS hA hd hQ 200 ?hk ?_
    case hk => exact trivial
    conv => arg 9; cbv
    try simp only [OK]
    repeat' first | (with_reducible refine OKK.loop ?_) | (with_reducible refine OKK.again ?_) | ((with_reducible refine ⟨fun hbr => ?_, fun hbr => ?_⟩) <;> (try simp (disch := omega) only [hA, OK, emaU, Int.reduceToNat, s_bat, s_rep1, s_setl, List.length_replicate, reduceCtorEq] at hbr) <;> (try (with_reducible exfalso; omega))) | ((with_reducible refine runK hA hd hQ 200 ?hk ?_); (case hk => exact trivial); (conv => arg 9; cbv); (try simp only [OK])) | ((with_reducible refine need_of ?hn ?_); (case hn => ((simp (disch := omega) only [hA, OK, emaU, Int.reduceToNat, s_bat, s_rep1, s_setl, List.length_replicate]) <;> omega))) | fail
    rotate_right
    · have hz1' : (A.ib .add .i64 z 1).toNat = z.toNat + 1 := by simp (disch := omega) only [hA, OK, emaU, Int.reduceToNat, s_bat, s_rep1, s_setl, List.length_replicate]; omega
      refine OKs.mask (msk 63 [0, 1, 2, 3, 12, 13, 14]) (OKs.mv [0, 3] [] (by rw [hρ]; rfl) ⟨by decide, by simp [sizeH], by simp⟩ (ih _ _ ⟨A.ib .add .i64 z 1, ds ++ [nd], _, _, .inr rfl, rfl, ?_, ?_, (by rw [hA]; simp [s_addN, hbn]), ((congrArg _ hpush).trans (mvL_cl _ _ _ (clDs _))), ?_, hdok1⟩ ?_))
      · simp (disch := omega) only [hA, OK, emaU, Int.reduceToNat, s_bat, s_rep1, s_setl, List.length_replicate]; omega
      · simp (disch := omega) only [hA, OK, emaU, Int.reduceToNat, s_bat, s_rep1, s_setl, List.length_replicate]; omega
      · rw [hz1', hstep, if_neg (by omega), hds1, List.append_assoc]; exact (List.take_of_length_le (by rw [← List.append_assoc, ← hds1]; simp; omega)).symm
      · simp (disch := omega) only [hA, OK, emaU, Int.reduceToNat, s_bat, s_rep1, s_setl, List.length_replicate]; omega
    all_goals
      refine CallOK.of (goodF_of F74_ok) (Tri.mono (Tri.sub [3] [] ⟨by decide, by simp [sizeH], by simp⟩ (by simp) (Tri.args (ihl kids (path ++ [(l.take z.toNat).length]) _ (inD || decide (k = 19)) (ds ++ [nd]) _ _ _ _ _ (by rw [hpl1]; omega) (by rw [hpl1]; omega) (by rw [hpl1]; exact hwc1) hwc2 hkok.2.2.2.2.2.2 hkok.2.2.2.2.2.1 hdok1 (by simp; omega) (by rw [hpl1]; exact hwn1) (by rw [hA]; simp [s_addN, hbn]) ((congrArg _ hpush).trans (mvL_cl _ _ _ (clDs _))) hkn hkc) (UpL.cons (Up.refl _) (UpL.cons (Up.refl _) (UpL.cons (by first | (rw [show (inD || decide (k = 19)) = true by simp only [(by assumption : inD = true), Bool.true_or]]; exact Up.sb _) | (rw [show (inD || decide (k = 19)) = A.ic .eql k 19 by rw [hA, s_eql, (by assumption : inD = false), Bool.false_or]]; exact Up.refl _)) (UpL.cons (Up.refl _) UpL.nil))))) (.inl rfl)) fun v hh hx => ?_)
    all_goals
      obtain ⟨v0, h0, ⟨ds2, bn2, bc2, hbn2, hbc2, hds2, hdok2, hor⟩, hv2, hh2⟩ := hx
      have hmv2 : ∀ g z, mvL g z bc2 = bc2 := fun g z => mvL_cl _ _ _ (by rw [hbc2]; exact clDs ds2)
      rcases hor with ⟨e1, e2⟩ | ⟨e1, e2⟩ <;> subst e1 <;> subst e2 <;> subst hv2 <;> subst hh2
      · rw [sub3a _ _ _ _ hmv2]
        repeat' first | (with_reducible refine OKK.loop ?_) | (with_reducible refine OKK.again ?_) | ((with_reducible refine ⟨fun hbr => ?_, fun hbr => ?_⟩) <;> (try simp (disch := omega) only [hA, OK, emaU, Int.reduceToNat, s_bat, s_rep1, s_setl, List.length_replicate, reduceCtorEq] at hbr) <;> (try (with_reducible exfalso; omega))) | ((with_reducible refine runK hA hd hQ 200 ?hk ?_); (case hk => exact trivial); (conv => arg 9; cbv); (try simp only [OK])) | ((with_reducible refine need_of ?hn ?_); (case hn => ((simp (disch := omega) only [hA, OK, emaU, Int.reduceToNat, s_bat, s_rep1, s_setl, List.length_replicate]) <;> omega))) | fail
        have hz1' : (A.ib .add .i64 z 1).toNat = z.toNat + 1 := by simp (disch := omega) only [hA, OK, emaU, Int.reduceToNat, s_bat, s_rep1, s_setl, List.length_replicate]; omega
        refine OKs.mask (msk 63 [0, 1, 2, 3, 12, 13, 14]) (OKs.mv [0, 3] [] (by rw [hρ]; rfl) ⟨by decide, by simp [sizeH], by simp⟩ (ih _ _ ⟨A.ib .add .i64 z 1, ds2, _, _, .inr rfl, rfl, ?_, ?_, hbn2, ((hmv2 _ _).trans hbc2), ?_, hdok2⟩ ?_))
        · simp (disch := omega) only [hA, OK, emaU, Int.reduceToNat, s_bat, s_rep1, s_setl, List.length_replicate]; omega
        · simp (disch := omega) only [hA, OK, emaU, Int.reduceToNat, s_bat, s_rep1, s_setl, List.length_replicate]; omega
        · rw [hz1', hstep, if_pos (by omega), hds2, hds1, List.append_assoc, List.append_assoc, List.singleton_append]
        · simp (disch := omega) only [hA, OK, emaU, Int.reduceToNat, s_bat, s_rep1, s_setl, List.length_replicate]; omega
      · rw [sub3b _ _ _ _ hmv2]
        repeat' first | (with_reducible refine OKK.loop ?_) | (with_reducible refine OKK.again ?_) | ((with_reducible refine ⟨fun hbr => ?_, fun hbr => ?_⟩) <;> (try simp (disch := omega) only [hA, OK, emaU, Int.reduceToNat, s_bat, s_rep1, s_setl, List.length_replicate, reduceCtorEq] at hbr) <;> (try (with_reducible exfalso; omega))) | ((with_reducible refine runK hA hd hQ 200 ?hk ?_); (case hk => exact trivial); (conv => arg 9; cbv); (try simp only [OK])) | ((with_reducible refine need_of ?hn ?_); (case hn => ((simp (disch := omega) only [hA, OK, emaU, Int.reduceToNat, s_bat, s_rep1, s_setl, List.length_replicate]) <;> omega))) | fail
        have hz1' : (A.ib .add .i64 z 1).toNat = z.toNat + 1 := by simp (disch := omega) only [hA, OK, emaU, Int.reduceToNat, s_bat, s_rep1, s_setl, List.length_replicate]; omega
        refine OKs.mask (msk 63 [0, 1, 2, 3, 12, 13, 14]) (OKs.mv [0, 4] [] (by rw [hρ]; rfl) ⟨by decide, by simp [sizeH], by simp⟩ (ih _ _ ⟨A.ib .add .i64 z 1, ds2, _, _, .inr rfl, rfl, ?_, ?_, hbn2, ((hmv2 _ _).trans hbc2), ?_, hdok2⟩ ?_))
        · simp (disch := omega) only [hA, OK, emaU, Int.reduceToNat, s_bat, s_rep1, s_setl, List.length_replicate]; omega
        · simp (disch := omega) only [hA, OK, emaU, Int.reduceToNat, s_bat, s_rep1, s_setl, List.length_replicate]; omega
        · rw [hz1', hstep, if_pos (by omega), hds2, hds1, List.append_assoc, List.append_assoc, List.singleton_append]
        · simp (disch := omega) only [hA, OK, emaU, Int.reduceToNat, s_bat, s_rep1, s_setl, List.length_replicate]; omega
  ·
    have hdl0 : ds.length ≤ 257 := hdl
    with_reducible refine runS hA hd hQ 1 ?hk ?_
    case hk => exact trivial
    conv => arg 9; cbv
    try simp only [OK]
    repeat' first | (with_reducible refine OKK.loop ?_) | (with_reducible refine OKK.again ?_) | (with_reducible refine OKK.stopS (some 35) ?_) | (with_reducible refine OKK.stopO (some 35) ?_) | ((with_reducible refine ⟨fun hbr => ?_, fun hbr => ?_⟩) <;> (try simp (disch := omega) only [hA, OK, emaU, Int.reduceToNat, s_bat, s_rep1, s_setl, List.length_replicate, reduceCtorEq] at hbr) <;> (try (with_reducible exfalso; omega))) | ((with_reducible refine runK hA hd hQ 1 ?hk ?_); (case hk => exact trivial); (conv => arg 9; cbv); (try simp only [OK])) | ((with_reducible refine need_of ?hn ?_); (case hn => ((simp (disch := omega) only [hA, OK, emaU, Int.reduceToNat, s_bat, s_rep1, s_setl, List.length_replicate]) <;> omega))) | ((refine ⟨_, _, ?l1, (hLf (by omega)), rfl, ?_⟩); (case l1 => exact rfl)) | fail
    all_goals try ((with_reducible refine FinR.self ?_); refine FinR.intro rfl (GrowR0.stop _ hsplit hbn hbc hds hdok (by first | exact .inr (by omega) | exact .inl (hend (by omega))) (.inr ⟨rfl, _, rfl⟩)))
    refine OKs.mask (msk 63 [0, 1, 2, 3, 9, 10, 11, 12, 13, 14]) ?_
    refine OKs.mv [0, 1, 2] [3] (by rw [hρ]; rfl) ⟨by decide, by simp [sizeH], fun id hid => by simp at hid; subst hid; exact ⟨_, rfl, by rw [hA]; exact clL_setl _ (clL_setl _ (clL_rep1 _ _ rfl) (clL_tak _ (clL_tak _ hpc2))) rfl⟩⟩ ?_
    simp only [mvSt, mvH, getH, mvO, hmv]
    obtain ⟨wn, hwn⟩ : ∃ n, n = A.tn (A.ib .add .i64 (A.ofn pn) 1) := ⟨_, rfl⟩
    obtain ⟨wc, hwc⟩ : ∃ c, c = A.setl (A.setl (A.rep [.lit (.int .i64 0)] (A.tn (A.ib .add .i64 (A.ofn pn) 1))) 0 (A.tak (A.mul (A.nmin pn (A.tn (A.ib .add .i64 (A.ofn pn) 1))) 1) (A.tak (A.mul pn 1) pc))) (A.idx 0 (A.ofn pn) 1) [.lit (.int .i64 z)] := ⟨_, rfl⟩
    refine OKs.up 11 (.isl wn none wc) (by rw [hwn, hwc]; exact Up.cap _ _ _) ?_
    have hwn1 : wn = pn + 1 := by rw [hwn, hA, s_tn, s_ofn, s_add _ _ (by omega) (by omega)]; omega
    have hwc1 : wc.length = pn + 1 := by
      rw [hwc]; simp (disch := omega) only [hA, OK, emaU, Int.reduceToNat, s_bat, s_rep1, s_setl, List.length_replicate , Int.toNat_natCast]; omega
    have hwc2 : clL wc = true := by rw [hwc, hA]; exact clL_setl _ (clL_setl _ (clL_rep1 _ _ rfl) (clL_tak _ (clL_tak _ hpc2))) rfl
    clear hwn hwc
    obtain ⟨nd, hnd⟩ : ∃ nd : Nd, nd = ⟨⟨path ++ [(l.take z.toNat).length], l.take z.toNat, .mk nm nul k w i x kids, inD⟩, none, wc, l.drop z.toNat⟩ := ⟨_, rfl⟩
    have htk : (l.take z.toNat).length = z.toNat := by rw [List.length_take]; omega
    have hpl1 : (path ++ [(l.take z.toNat).length]).length = pn + 1 := by simp [hN]
    have hkok := hokf (by assumption)
    have hds1 := grow_one (nd := nd) hds (by omega)
    have hcell : [.isl wn none wc, .lit (.string nm), .lit (.bool nul), .lit (.int .i64 k), .lit (.int .i64 w), .lit (.int .i64 i), .lit (.int .i64 x), .isl kn none kc, .isl (A.sub (A.tn z) (A.tn 0)) none (A.drp (A.mul (A.tn 0) 7) lc), .sb inD] = cellsD nd := by
      rw [hnd, cellsD]
      simp only [nm_mk, nul_mk, kind_mk, width_mk, id_mk, idx_mk, kids_mk, hA, s_tn, s_subN, s_drp, s_mulN, List.take_append_drop, List.length_append, List.length_cons, List.length_nil, htk, Int.reduceToNat, Nat.zero_mul, List.drop_zero, Nat.sub_zero, ← hlc, ← hkn, ← hkc, hwn1, hN]
    have hpush := ds_push hA hbn hbc nd hcell
    have hndok : okD nd := by rw [hnd]; exact ⟨by simp only [List.length_append, List.length_cons, List.length_nil]; omega, by simp only [htk]; omega, hokf (by assumption)⟩
    have hdok1 : ∀ d ∈ ds ++ [nd], okD d := fun d hd => (List.mem_append.1 hd).elim (hdok d) fun h => by rw [List.mem_singleton.1 h]; exact hndok
    have hndp : nd.p = ⟨path ++ [(l.take z.toNat).length], l.take z.toNat, .mk nm nul k w i x kids, inD⟩ := by rw [hnd]
    have hstep := nodesFs_step path inD l z.toNat (by omega)
    rw [← hf, nodesF, ← hndp] at hstep
    with_reducible refine runS hA hd hQ 200 ?hk ?_
    case hk => exact trivial
    conv => arg 9; cbv
    try simp only [OK]
    repeat' first | (with_reducible refine OKK.loop ?_) | (with_reducible refine OKK.again ?_) | ((with_reducible refine ⟨fun hbr => ?_, fun hbr => ?_⟩) <;> (try simp (disch := omega) only [hA, OK, emaU, Int.reduceToNat, s_bat, s_rep1, s_setl, List.length_replicate, reduceCtorEq] at hbr) <;> (try (with_reducible exfalso; omega))) | ((with_reducible refine runK hA hd hQ 200 ?hk ?_); (case hk => exact trivial); (conv => arg 9; cbv); (try simp only [OK])) | ((with_reducible refine need_of ?hn ?_); (case hn => ((simp (disch := omega) only [hA, OK, emaU, Int.reduceToNat, s_bat, s_rep1, s_setl, List.length_replicate]) <;> omega))) | fail
    rotate_right
    · have hz1' : (A.ib .add .i64 z 1).toNat = z.toNat + 1 := by simp (disch := omega) only [hA, OK, emaU, Int.reduceToNat, s_bat, s_rep1, s_setl, List.length_replicate]; omega
      refine OKs.mask (msk 63 [0, 1, 2, 3, 12, 13, 14]) (OKs.mv [0, 4] [] (by rw [hρ]; rfl) ⟨by decide, by simp [sizeH], by simp⟩ (ih _ _ ⟨A.ib .add .i64 z 1, ds ++ [nd], _, _, .inr rfl, rfl, ?_, ?_, (by rw [hA]; simp [s_addN, hbn]), ((congrArg _ hpush).trans (mvL_cl _ _ _ (clDs _))), ?_, hdok1⟩ ?_))
      · simp (disch := omega) only [hA, OK, emaU, Int.reduceToNat, s_bat, s_rep1, s_setl, List.length_replicate]; omega
      · simp (disch := omega) only [hA, OK, emaU, Int.reduceToNat, s_bat, s_rep1, s_setl, List.length_replicate]; omega
      · rw [hz1', hstep, if_neg (by omega), hds1, List.append_assoc]; exact (List.take_of_length_le (by rw [← List.append_assoc, ← hds1]; simp; omega)).symm
      · simp (disch := omega) only [hA, OK, emaU, Int.reduceToNat, s_bat, s_rep1, s_setl, List.length_replicate]; omega
    all_goals
      refine CallOK.of (goodF_of F74_ok) (Tri.mono (Tri.sub [4] [] ⟨by decide, by simp [sizeH], by simp⟩ (by simp) (Tri.args (ihl kids (path ++ [(l.take z.toNat).length]) _ (inD || decide (k = 19)) (ds ++ [nd]) _ _ _ _ _ (by rw [hpl1]; omega) (by rw [hpl1]; omega) (by rw [hpl1]; exact hwc1) hwc2 hkok.2.2.2.2.2.2 hkok.2.2.2.2.2.1 hdok1 (by simp; omega) (by rw [hpl1]; exact hwn1) (by rw [hA]; simp [s_addN, hbn]) ((congrArg _ hpush).trans (mvL_cl _ _ _ (clDs _))) hkn hkc) (UpL.cons (Up.refl _) (UpL.cons (Up.refl _) (UpL.cons (by first | (rw [show (inD || decide (k = 19)) = true by simp only [(by assumption : inD = true), Bool.true_or]]; exact Up.sb _) | (rw [show (inD || decide (k = 19)) = A.ic .eql k 19 by rw [hA, s_eql, (by assumption : inD = false), Bool.false_or]]; exact Up.refl _)) (UpL.cons (Up.refl _) UpL.nil))))) (.inl rfl)) fun v hh hx => ?_)
    all_goals
      obtain ⟨v0, h0, ⟨ds2, bn2, bc2, hbn2, hbc2, hds2, hdok2, hor⟩, hv2, hh2⟩ := hx
      have hmv2 : ∀ g z, mvL g z bc2 = bc2 := fun g z => mvL_cl _ _ _ (by rw [hbc2]; exact clDs ds2)
      rcases hor with ⟨e1, e2⟩ | ⟨e1, e2⟩ <;> subst e1 <;> subst e2 <;> subst hv2 <;> subst hh2
      · rw [sub4a _ _ _ _ _ hmv2]
        repeat' first | (with_reducible refine OKK.loop ?_) | (with_reducible refine OKK.again ?_) | ((with_reducible refine ⟨fun hbr => ?_, fun hbr => ?_⟩) <;> (try simp (disch := omega) only [hA, OK, emaU, Int.reduceToNat, s_bat, s_rep1, s_setl, List.length_replicate, reduceCtorEq] at hbr) <;> (try (with_reducible exfalso; omega))) | ((with_reducible refine runK hA hd hQ 200 ?hk ?_); (case hk => exact trivial); (conv => arg 9; cbv); (try simp only [OK])) | ((with_reducible refine need_of ?hn ?_); (case hn => ((simp (disch := omega) only [hA, OK, emaU, Int.reduceToNat, s_bat, s_rep1, s_setl, List.length_replicate]) <;> omega))) | fail
        have hz1' : (A.ib .add .i64 z 1).toNat = z.toNat + 1 := by simp (disch := omega) only [hA, OK, emaU, Int.reduceToNat, s_bat, s_rep1, s_setl, List.length_replicate]; omega
        refine OKs.mask (msk 63 [0, 1, 2, 3, 12, 13, 14]) (OKs.mv [0, 4] [] (by rw [hρ]; rfl) ⟨by decide, by simp [sizeH], by simp⟩ (ih _ _ ⟨A.ib .add .i64 z 1, ds2, _, _, .inr rfl, rfl, ?_, ?_, hbn2, ((hmv2 _ _).trans hbc2), ?_, hdok2⟩ ?_))
        · simp (disch := omega) only [hA, OK, emaU, Int.reduceToNat, s_bat, s_rep1, s_setl, List.length_replicate]; omega
        · simp (disch := omega) only [hA, OK, emaU, Int.reduceToNat, s_bat, s_rep1, s_setl, List.length_replicate]; omega
        · rw [hz1', hstep, if_pos (by omega), hds2, hds1, List.append_assoc, List.append_assoc, List.singleton_append]
        · simp (disch := omega) only [hA, OK, emaU, Int.reduceToNat, s_bat, s_rep1, s_setl, List.length_replicate]; omega
      · rw [sub4b _ _ _ _ _ hmv2]
        repeat' first | (with_reducible refine OKK.loop ?_) | (with_reducible refine OKK.again ?_) | ((with_reducible refine ⟨fun hbr => ?_, fun hbr => ?_⟩) <;> (try simp (disch := omega) only [hA, OK, emaU, Int.reduceToNat, s_bat, s_rep1, s_setl, List.length_replicate, reduceCtorEq] at hbr) <;> (try (with_reducible exfalso; omega))) | ((with_reducible refine runK hA hd hQ 200 ?hk ?_); (case hk => exact trivial); (conv => arg 9; cbv); (try simp only [OK])) | ((with_reducible refine need_of ?hn ?_); (case hn => ((simp (disch := omega) only [hA, OK, emaU, Int.reduceToNat, s_bat, s_rep1, s_setl, List.length_replicate]) <;> omega))) | fail
        have hz1' : (A.ib .add .i64 z 1).toNat = z.toNat + 1 := by simp (disch := omega) only [hA, OK, emaU, Int.reduceToNat, s_bat, s_rep1, s_setl, List.length_replicate]; omega
        refine OKs.mask (msk 63 [0, 1, 2, 3, 12, 13, 14]) (OKs.mv [0, 5] [] (by rw [hρ]; rfl) ⟨by decide, by simp [sizeH], by simp⟩ (ih _ _ ⟨A.ib .add .i64 z 1, ds2, _, _, .inr rfl, rfl, ?_, ?_, hbn2, ((hmv2 _ _).trans hbc2), ?_, hdok2⟩ ?_))
        · simp (disch := omega) only [hA, OK, emaU, Int.reduceToNat, s_bat, s_rep1, s_setl, List.length_replicate]; omega
        · simp (disch := omega) only [hA, OK, emaU, Int.reduceToNat, s_bat, s_rep1, s_setl, List.length_replicate]; omega
        · rw [hz1', hstep, if_pos (by omega), hds2, hds1, List.append_assoc, List.append_assoc, List.singleton_append]
        · simp (disch := omega) only [hA, OK, emaU, Int.reduceToNat, s_bat, s_rep1, s_setl, List.length_replicate]; omega
set_option maxRecDepth 100000 in
set_option maxHeartbeats 8000000 in
theorem grow_top0 (l : List Fld) (path : List Nat) (pc : List EV) (inD : Bool) (prev : List Nd) (pn n0 : Nat) (lc : List EV) (hprev : prev = []) (hp64 : path.length ≤ 64) (hpc : pc.length = path.length) (hpc2 : clL pc = true) (hokl : okFs l) (hll : l.length ≤ 140737488351232) (hN : pn = path.length) (hn0 : n0 = l.length) (hlc : lc = cellsFs l) :
    Tri Tryz.prog gs 74 [.isl n0 none lc, .isl pn none pc, .sb inD, .lit (.slice none 0 0)] [] fun v h' => GrowT ((prev.map Nd.p ++ nodesFs path [] inD l).take 257) v h' := by
  have hlev : 65 ≤ path.length + 65 := by omega
  have hpl : prev.length ≤ 257 := by rw [hprev]; simp
  refine Tri.mv (R := GrowTR0 ((prev.map Nd.p ++ nodesFs path [] inD l).take 257)) (Tri_of F74_ok fun I0 ρ0 w0 Q hρ hQ => ?_) fun v h' hr => hr.done rfl
  obtain ⟨A, hA⟩ : ∃ A, A = stdA := ⟨_, rfl⟩
  with_reducible refine runS hA hd hQ 200 ?hk ?_
  case hk => exact trivial
  conv => arg 9; cbv
  try simp only [OK]
  repeat' first | (with_reducible refine OKK.loop ?_) | (with_reducible refine OKK.again ?_) | ((with_reducible refine ⟨fun hbr => ?_, fun hbr => ?_⟩) <;> (try simp (disch := omega) only [hA, OK, emaU, Int.reduceToNat, s_bat, s_rep1, s_setl, List.length_replicate, reduceCtorEq] at hbr) <;> (try (with_reducible exfalso; omega))) | ((with_reducible refine runK hA hd hQ 200 ?hk ?_); (case hk => exact trivial); (conv => arg 9; cbv); (try simp only [OK])) | ((with_reducible refine need_of ?hn ?_); (case hn => ((simp (disch := omega) only [hA, OK, emaU, Int.reduceToNat, s_bat, s_rep1, s_setl, List.length_replicate]) <;> omega))) | fail
  refine OKs.mask (msk 63 [0, 1, 2, 3, 12, 13, 14]) ?_
  refine OKs.loopN (fun n st => ∃ (z : Int) (ds : List Nd) (bn : Nat) (bc : List EV), (st = ⟨mkT 63 [(0, .isl n0 none lc), (1, .isl pn none pc), (2, .sb inD), (3, .lit (.slice none 0 0)), (12, .isl n0 none lc), (13, .lit (.int .i64 (A.ofn n0))), (14, .lit (.int .i64 z))], []⟩ ∧ ds = [] ∨ st = ⟨mkT 63 [(0, .isl n0 none lc), (1, .isl pn none pc), (2, .sb inD), (3, .sl 10 0 0 bn none), (12, .isl n0 none lc), (13, .lit (.int .i64 (A.ofn n0))), (14, .lit (.int .i64 z))], [.blk bc]⟩) ∧ n = (n0 - z).toNat ∧ 0 ≤ z ∧ z ≤ n0 ∧ bn = ds.length ∧ bc = cellsDs ds ∧ ds.map Nd.p = (prev.map Nd.p ++ nodesFs path [] inD (l.take z.toNat)).take 257 ∧ ∀ d ∈ ds, okD d) (fun n st hs' ih => ?_) ⟨0, [], 0, [], .inl ⟨rfl, rfl⟩, rfl, by omega, by omega, rfl, rfl, by rw [show (0 : Int).toNat = 0 from rfl, List.take_zero, nodesFs, List.append_nil, hprev]; rfl, by simp⟩
  obtain ⟨z, ds, bn, bc, hst, hnn, hz1, hz2, hbn, hbc, hds, hdok⟩ := hs'
  have hmv : ∀ g z, mvL g z bc = bc := fun g z => mvL_cl _ _ _ (by rw [hbc]; exact clDs ds)
  have hbl : bc.length = 10 * bn := by rw [hbc, hbn, ds_length]
  have hdl : ds.length ≤ 257 := by rw [show ds.length = (ds.map Nd.p).length by simp, hds]; simp; omega
  have hsplit : (prev.map Nd.p ++ nodesFs path [] inD (l.take z.toNat)) ++ nodesFs path (l.take z.toNat) inD (l.drop z.toNat) = prev.map Nd.p ++ nodesFs path [] inD l := by
    conv => rhs; rw [← List.take_append_drop z.toNat l, nodesFs_app]
    simp
  have hend : ¬ z < n0 → nodesFs path (l.take z.toNat) inD (l.drop z.toNat) = [] := fun h => by rw [List.drop_eq_nil_of_le (by omega)]; rfl
  obtain ⟨f, hf⟩ : ∃ f, f = l.getD z.toNat fld0 := ⟨_, rfl⟩
  have hLf : z < n0 → List.take 7 (List.drop (A.idx 0 z 7) lc) = cellsF f := fun hz => by rw [hA, hlc, hf, ← fs_get l z.toNat (by omega), s_idx, Nat.zero_add]
  have hokf : z < n0 → okF f := fun hz => by rw [hf]; exact okFs_get hokl _ (by omega)
  obtain ⟨nm, nul, k, w, i, x, kids⟩ := f
  simp only [cellsF] at hLf
  obtain ⟨kn, hkn⟩ : ∃ n, n = kids.length := ⟨_, rfl⟩
  obtain ⟨kc, hkc⟩ : ∃ c, c = cellsFs kids := ⟨_, rfl⟩
  rw [← hkn, ← hkc] at hLf
  rcases hst with ⟨rfl, hds0⟩ | rfl
  ·
    have hdl0 : ds.length = 0 := by rw [hds0]; rfl
    with_reducible refine runS hA hd hQ 1 ?hk ?_
    case hk => exact trivial
    conv => arg 9; cbv
    try simp only [OK]
    repeat' first | (with_reducible refine OKK.loop ?_) | (with_reducible refine OKK.again ?_) | (with_reducible refine OKK.stopS (some 35) ?_) | (with_reducible refine OKK.stopO (some 35) ?_) | ((with_reducible refine ⟨fun hbr => ?_, fun hbr => ?_⟩) <;> (try simp (disch := omega) only [hA, OK, emaU, Int.reduceToNat, s_bat, s_rep1, s_setl, List.length_replicate, reduceCtorEq] at hbr) <;> (try (with_reducible exfalso; omega))) | ((with_reducible refine runK hA hd hQ 1 ?hk ?_); (case hk => exact trivial); (conv => arg 9; cbv); (try simp only [OK])) | ((with_reducible refine need_of ?hn ?_); (case hn => ((simp (disch := omega) only [hA, OK, emaU, Int.reduceToNat, s_bat, s_rep1, s_setl, List.length_replicate]) <;> omega))) | ((refine ⟨_, _, ?l1, (hLf (by omega)), rfl, ?_⟩); (case l1 => exact rfl)) | fail
    all_goals try ((with_reducible refine FinR.self ?_); refine FinR.intro rfl (GrowTR0.stop _ hsplit hbn hbc hds hdok (by first | exact .inr (by omega) | exact .inl (hend (by omega))) (Or.inl ⟨hbn.trans (by rw [hds0]; rfl), rfl, rfl⟩)))
    refine OKs.mask (msk 63 [0, 1, 2, 3, 9, 10, 11, 12, 13, 14]) ?_
    refine OKs.mv [0] [1] (by rw [hρ]; rfl) ⟨by decide, by simp [sizeH], fun id hid => by simp at hid; subst hid; exact ⟨_, rfl, by rw [hA]; exact clL_setl _ (clL_setl _ (clL_rep1 _ _ rfl) (clL_tak _ (clL_tak _ hpc2))) rfl⟩⟩ ?_
    simp only [mvSt, mvH, getH, mvO, hmv]
    obtain ⟨wn, hwn⟩ : ∃ n, n = A.tn (A.ib .add .i64 (A.ofn pn) 1) := ⟨_, rfl⟩
    obtain ⟨wc, hwc⟩ : ∃ c, c = A.setl (A.setl (A.rep [.lit (.int .i64 0)] (A.tn (A.ib .add .i64 (A.ofn pn) 1))) 0 (A.tak (A.mul (A.nmin pn (A.tn (A.ib .add .i64 (A.ofn pn) 1))) 1) (A.tak (A.mul pn 1) pc))) (A.idx 0 (A.ofn pn) 1) [.lit (.int .i64 z)] := ⟨_, rfl⟩
    refine OKs.up 11 (.isl wn none wc) (by rw [hwn, hwc]; exact Up.cap _ _ _) ?_
    have hwn1 : wn = pn + 1 := by rw [hwn, hA, s_tn, s_ofn, s_add _ _ (by omega) (by omega)]; omega
    have hwc1 : wc.length = pn + 1 := by
      rw [hwc]; simp (disch := omega) only [hA, OK, emaU, Int.reduceToNat, s_bat, s_rep1, s_setl, List.length_replicate , Int.toNat_natCast]; omega
    have hwc2 : clL wc = true := by rw [hwc, hA]; exact clL_setl _ (clL_setl _ (clL_rep1 _ _ rfl) (clL_tak _ (clL_tak _ hpc2))) rfl
    clear hwn hwc
    obtain ⟨nd, hnd⟩ : ∃ nd : Nd, nd = ⟨⟨path ++ [(l.take z.toNat).length], l.take z.toNat, .mk nm nul k w i x kids, inD⟩, none, wc, l.drop z.toNat⟩ := ⟨_, rfl⟩
    have htk : (l.take z.toNat).length = z.toNat := by rw [List.length_take]; omega
    have hpl1 : (path ++ [(l.take z.toNat).length]).length = pn + 1 := by simp [hN]
    have hkok := hokf (by assumption)
    have hds1 := grow_one (nd := nd) hds (by omega)
    have hcell : [.isl wn none wc, .lit (.string nm), .lit (.bool nul), .lit (.int .i64 k), .lit (.int .i64 w), .lit (.int .i64 i), .lit (.int .i64 x), .isl kn none kc, .isl (A.sub (A.tn z) (A.tn 0)) none (A.drp (A.mul (A.tn 0) 7) lc), .sb inD] = cellsD nd := by
      rw [hnd, cellsD]
      simp only [nm_mk, nul_mk, kind_mk, width_mk, id_mk, idx_mk, kids_mk, hA, s_tn, s_subN, s_drp, s_mulN, List.take_append_drop, List.length_append, List.length_cons, List.length_nil, htk, Int.reduceToNat, Nat.zero_mul, List.drop_zero, Nat.sub_zero, ← hlc, ← hkn, ← hkc, hwn1, hN]
    have hpush := ds_push1 hA hds0 nd hcell
    have hndok : okD nd := by rw [hnd]; exact ⟨by simp only [List.length_append, List.length_cons, List.length_nil]; omega, by simp only [htk]; omega, hokf (by assumption)⟩
    have hdok1 : ∀ d ∈ ds ++ [nd], okD d := fun d hd => (List.mem_append.1 hd).elim (hdok d) fun h => by rw [List.mem_singleton.1 h]; exact hndok
    have hndp : nd.p = ⟨path ++ [(l.take z.toNat).length], l.take z.toNat, .mk nm nul k w i x kids, inD⟩ := by rw [hnd]
    have hstep := nodesFs_step path inD l z.toNat (by omega)
    rw [← hf, nodesF, ← hndp] at hstep
    with_reducible refine runS hA hd hQ 200 ?hk ?_
    case hk => exact trivial
    conv => arg 9; cbv
    try simp only [OK]
    repeat' first | (with_reducible refine OKK.loop ?_) | (with_reducible refine OKK.again ?_) | ((with_reducible refine ⟨fun hbr => ?_, fun hbr => ?_⟩) <;> (try simp (disch := omega) only [hA, OK, emaU, Int.reduceToNat, s_bat, s_rep1, s_setl, List.length_replicate, reduceCtorEq] at hbr) <;> (try (with_reducible exfalso; omega))) | ((with_reducible refine runK hA hd hQ 200 ?hk ?_); (case hk => exact trivial); (conv => arg 9; cbv); (try simp only [OK])) | ((with_reducible refine need_of ?hn ?_); (case hn => ((simp (disch := omega) only [hA, OK, emaU, Int.reduceToNat, s_bat, s_rep1, s_setl, List.length_replicate]) <;> omega))) | fail
    rotate_right
    · have hz1' : (A.ib .add .i64 z 1).toNat = z.toNat + 1 := by simp (disch := omega) only [hA, OK, emaU, Int.reduceToNat, s_bat, s_rep1, s_setl, List.length_replicate]; omega
      refine OKs.mask (msk 63 [0, 1, 2, 3, 12, 13, 14]) (OKs.mv [2] [] (by rw [hρ]; rfl) ⟨by decide, by simp [sizeH], by simp⟩ (ih _ _ ⟨A.ib .add .i64 z 1, ds ++ [nd], _, _, .inr rfl, rfl, ?_, ?_, (by rw [hds0]; rfl), ((congrArg _ hpush).trans (mvL_cl _ _ _ (clDs _))), ?_, hdok1⟩ ?_))
      · simp (disch := omega) only [hA, OK, emaU, Int.reduceToNat, s_bat, s_rep1, s_setl, List.length_replicate]; omega
      · simp (disch := omega) only [hA, OK, emaU, Int.reduceToNat, s_bat, s_rep1, s_setl, List.length_replicate]; omega
      · rw [hz1', hstep, if_neg (by omega), hds1, List.append_assoc]; exact (List.take_of_length_le (by rw [← List.append_assoc, ← hds1]; simp; omega)).symm
      · simp (disch := omega) only [hA, OK, emaU, Int.reduceToNat, s_bat, s_rep1, s_setl, List.length_replicate]; omega
    all_goals
      refine CallOK.of (goodF_of F74_ok) (Tri.mono (Tri.sub [2] [] ⟨by decide, by simp [sizeH], by simp⟩ (by simp) (Tri.args (grow_more 64 kids (path ++ [(l.take z.toNat).length]) _ (inD || decide (k = 19)) (ds ++ [nd]) _ _ _ _ _ (by rw [hpl1]; omega) (by rw [hpl1]; omega) (by rw [hpl1]; exact hwc1) hwc2 hkok.2.2.2.2.2.2 hkok.2.2.2.2.2.1 hdok1 (by simp; omega) (by rw [hpl1]; exact hwn1) (by rw [hds0]; rfl) ((congrArg _ hpush).trans (mvL_cl _ _ _ (clDs _))) hkn hkc) (UpL.cons (Up.refl _) (UpL.cons (Up.refl _) (UpL.cons (by first | (rw [show (inD || decide (k = 19)) = true by simp only [(by assumption : inD = true), Bool.true_or]]; exact Up.sb _) | (rw [show (inD || decide (k = 19)) = A.ic .eql k 19 by rw [hA, s_eql, (by assumption : inD = false), Bool.false_or]]; exact Up.refl _)) (UpL.cons (Up.refl _) UpL.nil))))) (.inl rfl)) fun v hh hx => ?_)
    all_goals
      obtain ⟨v0, h0, ⟨ds2, bn2, bc2, hbn2, hbc2, hds2, hdok2, hor⟩, hv2, hh2⟩ := hx
      have hmv2 : ∀ g z, mvL g z bc2 = bc2 := fun g z => mvL_cl _ _ _ (by rw [hbc2]; exact clDs ds2)
      rcases hor with ⟨e1, e2⟩ | ⟨e1, e2⟩ <;> subst e1 <;> subst e2 <;> subst hv2 <;> subst hh2
      · rw [sub2a _ _ _ hmv2]
        repeat' first | (with_reducible refine OKK.loop ?_) | (with_reducible refine OKK.again ?_) | ((with_reducible refine ⟨fun hbr => ?_, fun hbr => ?_⟩) <;> (try simp (disch := omega) only [hA, OK, emaU, Int.reduceToNat, s_bat, s_rep1, s_setl, List.length_replicate, reduceCtorEq] at hbr) <;> (try (with_reducible exfalso; omega))) | ((with_reducible refine runK hA hd hQ 200 ?hk ?_); (case hk => exact trivial); (conv => arg 9; cbv); (try simp only [OK])) | ((with_reducible refine need_of ?hn ?_); (case hn => ((simp (disch := omega) only [hA, OK, emaU, Int.reduceToNat, s_bat, s_rep1, s_setl, List.length_replicate]) <;> omega))) | fail
        have hz1' : (A.ib .add .i64 z 1).toNat = z.toNat + 1 := by simp (disch := omega) only [hA, OK, emaU, Int.reduceToNat, s_bat, s_rep1, s_setl, List.length_replicate]; omega
        refine OKs.mask (msk 63 [0, 1, 2, 3, 12, 13, 14]) (OKs.mv [2] [] (by rw [hρ]; rfl) ⟨by decide, by simp [sizeH], by simp⟩ (ih _ _ ⟨A.ib .add .i64 z 1, ds2, _, _, .inr rfl, rfl, ?_, ?_, hbn2, ((hmv2 _ _).trans hbc2), ?_, hdok2⟩ ?_))
        · simp (disch := omega) only [hA, OK, emaU, Int.reduceToNat, s_bat, s_rep1, s_setl, List.length_replicate]; omega
        · simp (disch := omega) only [hA, OK, emaU, Int.reduceToNat, s_bat, s_rep1, s_setl, List.length_replicate]; omega
        · rw [hz1', hstep, if_pos (by omega), hds2, hds1, List.append_assoc, List.append_assoc, List.singleton_append]
        · simp (disch := omega) only [hA, OK, emaU, Int.reduceToNat, s_bat, s_rep1, s_setl, List.length_replicate]; omega
      · rw [sub2b _ _ _ hmv2]
        repeat' first | (with_reducible refine OKK.loop ?_) | (with_reducible refine OKK.again ?_) | ((with_reducible refine ⟨fun hbr => ?_, fun hbr => ?_⟩) <;> (try simp (disch := omega) only [hA, OK, emaU, Int.reduceToNat, s_bat, s_rep1, s_setl, List.length_replicate, reduceCtorEq] at hbr) <;> (try (with_reducible exfalso; omega))) | ((with_reducible refine runK hA hd hQ 200 ?hk ?_); (case hk => exact trivial); (conv => arg 9; cbv); (try simp only [OK])) | ((with_reducible refine need_of ?hn ?_); (case hn => ((simp (disch := omega) only [hA, OK, emaU, Int.reduceToNat, s_bat, s_rep1, s_setl, List.length_replicate]) <;> omega))) | fail
        have hz1' : (A.ib .add .i64 z 1).toNat = z.toNat + 1 := by simp (disch := omega) only [hA, OK, emaU, Int.reduceToNat, s_bat, s_rep1, s_setl, List.length_replicate]; omega
        refine OKs.mask (msk 63 [0, 1, 2, 3, 12, 13, 14]) (OKs.mv [3] [] (by rw [hρ]; rfl) ⟨by decide, by simp [sizeH], by simp⟩ (ih _ _ ⟨A.ib .add .i64 z 1, ds2, _, _, .inr rfl, rfl, ?_, ?_, hbn2, ((hmv2 _ _).trans hbc2), ?_, hdok2⟩ ?_))
        · simp (disch := omega) only [hA, OK, emaU, Int.reduceToNat, s_bat, s_rep1, s_setl, List.length_replicate]; omega
        · simp (disch := omega) only [hA, OK, emaU, Int.reduceToNat, s_bat, s_rep1, s_setl, List.length_replicate]; omega
        · rw [hz1', hstep, if_pos (by omega), hds2, hds1, List.append_assoc, List.append_assoc, List.singleton_append]
        · simp (disch := omega) only [hA, OK, emaU, Int.reduceToNat, s_bat, s_rep1, s_setl, List.length_replicate]; omega
  ·
    have hdl0 : ds.length ≤ 257 := hdl
    with_reducible refine runS hA hd hQ 1 ?hk ?_
    case hk => exact trivial
    conv => arg 9; cbv
    try simp only [OK]
    repeat' first | (with_reducible refine OKK.loop ?_) | (with_reducible refine OKK.again ?_) | (with_reducible refine OKK.stopS (some 35) ?_) | (with_reducible refine OKK.stopO (some 35) ?_) | ((with_reducible refine ⟨fun hbr => ?_, fun hbr => ?_⟩) <;> (try simp (disch := omega) only [hA, OK, emaU, Int.reduceToNat, s_bat, s_rep1, s_setl, List.length_replicate, reduceCtorEq] at hbr) <;> (try (with_reducible exfalso; omega))) | ((with_reducible refine runK hA hd hQ 1 ?hk ?_); (case hk => exact trivial); (conv => arg 9; cbv); (try simp only [OK])) | ((with_reducible refine need_of ?hn ?_); (case hn => ((simp (disch := omega) only [hA, OK, emaU, Int.reduceToNat, s_bat, s_rep1, s_setl, List.length_replicate]) <;> omega))) | ((refine ⟨_, _, ?l1, (hLf (by omega)), rfl, ?_⟩); (case l1 => exact rfl)) | fail
    all_goals try ((with_reducible refine FinR.self ?_); refine FinR.intro rfl (GrowTR0.stop _ hsplit hbn hbc hds hdok (by first | exact .inr (by omega) | exact .inl (hend (by omega))) (Or.inr ⟨rfl, _, rfl⟩)))
    refine OKs.mask (msk 63 [0, 1, 2, 3, 9, 10, 11, 12, 13, 14]) ?_
    refine OKs.mv [0, 1] [2] (by rw [hρ]; rfl) ⟨by decide, by simp [sizeH], fun id hid => by simp at hid; subst hid; exact ⟨_, rfl, by rw [hA]; exact clL_setl _ (clL_setl _ (clL_rep1 _ _ rfl) (clL_tak _ (clL_tak _ hpc2))) rfl⟩⟩ ?_
    simp only [mvSt, mvH, getH, mvO, hmv]
    obtain ⟨wn, hwn⟩ : ∃ n, n = A.tn (A.ib .add .i64 (A.ofn pn) 1) := ⟨_, rfl⟩
    obtain ⟨wc, hwc⟩ : ∃ c, c = A.setl (A.setl (A.rep [.lit (.int .i64 0)] (A.tn (A.ib .add .i64 (A.ofn pn) 1))) 0 (A.tak (A.mul (A.nmin pn (A.tn (A.ib .add .i64 (A.ofn pn) 1))) 1) (A.tak (A.mul pn 1) pc))) (A.idx 0 (A.ofn pn) 1) [.lit (.int .i64 z)] := ⟨_, rfl⟩
    refine OKs.up 11 (.isl wn none wc) (by rw [hwn, hwc]; exact Up.cap _ _ _) ?_
    have hwn1 : wn = pn + 1 := by rw [hwn, hA, s_tn, s_ofn, s_add _ _ (by omega) (by omega)]; omega
    have hwc1 : wc.length = pn + 1 := by
      rw [hwc]; simp (disch := omega) only [hA, OK, emaU, Int.reduceToNat, s_bat, s_rep1, s_setl, List.length_replicate , Int.toNat_natCast]; omega
    have hwc2 : clL wc = true := by rw [hwc, hA]; exact clL_setl _ (clL_setl _ (clL_rep1 _ _ rfl) (clL_tak _ (clL_tak _ hpc2))) rfl
    clear hwn hwc
    obtain ⟨nd, hnd⟩ : ∃ nd : Nd, nd = ⟨⟨path ++ [(l.take z.toNat).length], l.take z.toNat, .mk nm nul k w i x kids, inD⟩, none, wc, l.drop z.toNat⟩ := ⟨_, rfl⟩
    have htk : (l.take z.toNat).length = z.toNat := by rw [List.length_take]; omega
    have hpl1 : (path ++ [(l.take z.toNat).length]).length = pn + 1 := by simp [hN]
    have hkok := hokf (by assumption)
    have hds1 := grow_one (nd := nd) hds (by omega)
    have hcell : [.isl wn none wc, .lit (.string nm), .lit (.bool nul), .lit (.int .i64 k), .lit (.int .i64 w), .lit (.int .i64 i), .lit (.int .i64 x), .isl kn none kc, .isl (A.sub (A.tn z) (A.tn 0)) none (A.drp (A.mul (A.tn 0) 7) lc), .sb inD] = cellsD nd := by
      rw [hnd, cellsD]
      simp only [nm_mk, nul_mk, kind_mk, width_mk, id_mk, idx_mk, kids_mk, hA, s_tn, s_subN, s_drp, s_mulN, List.take_append_drop, List.length_append, List.length_cons, List.length_nil, htk, Int.reduceToNat, Nat.zero_mul, List.drop_zero, Nat.sub_zero, ← hlc, ← hkn, ← hkc, hwn1, hN]
    have hpush := ds_push hA hbn hbc nd hcell
    have hndok : okD nd := by rw [hnd]; exact ⟨by simp only [List.length_append, List.length_cons, List.length_nil]; omega, by simp only [htk]; omega, hokf (by assumption)⟩
    have hdok1 : ∀ d ∈ ds ++ [nd], okD d := fun d hd => (List.mem_append.1 hd).elim (hdok d) fun h => by rw [List.mem_singleton.1 h]; exact hndok
    have hndp : nd.p = ⟨path ++ [(l.take z.toNat).length], l.take z.toNat, .mk nm nul k w i x kids, inD⟩ := by rw [hnd]
    have hstep := nodesFs_step path inD l z.toNat (by omega)
    rw [← hf, nodesF, ← hndp] at hstep
    with_reducible refine runS hA hd hQ 200 ?hk ?_
    case hk => exact trivial
    conv => arg 9; cbv
    try simp only [OK]
    repeat' first | (with_reducible refine OKK.loop ?_) | (with_reducible refine OKK.again ?_) | ((with_reducible refine ⟨fun hbr => ?_, fun hbr => ?_⟩) <;> (try simp (disch := omega) only [hA, OK, emaU, Int.reduceToNat, s_bat, s_rep1, s_setl, List.length_replicate, reduceCtorEq] at hbr) <;> (try (with_reducible exfalso; omega))) | ((with_reducible refine runK hA hd hQ 200 ?hk ?_); (case hk => exact trivial); (conv => arg 9; cbv); (try simp only [OK])) | ((with_reducible refine need_of ?hn ?_); (case hn => ((simp (disch := omega) only [hA, OK, emaU, Int.reduceToNat, s_bat, s_rep1, s_setl, List.length_replicate]) <;> omega))) | fail
    rotate_right
    · have hz1' : (A.ib .add .i64 z 1).toNat = z.toNat + 1 := by simp (disch := omega) only [hA, OK, emaU, Int.reduceToNat, s_bat, s_rep1, s_setl, List.length_replicate]; omega
      refine OKs.mask (msk 63 [0, 1, 2, 3, 12, 13, 14]) (OKs.mv [3] [] (by rw [hρ]; rfl) ⟨by decide, by simp [sizeH], by simp⟩ (ih _ _ ⟨A.ib .add .i64 z 1, ds ++ [nd], _, _, .inr rfl, rfl, ?_, ?_, (by rw [hA]; simp [s_addN, hbn]), ((congrArg _ hpush).trans (mvL_cl _ _ _ (clDs _))), ?_, hdok1⟩ ?_))
      · simp (disch := omega) only [hA, OK, emaU, Int.reduceToNat, s_bat, s_rep1, s_setl, List.length_replicate]; omega
      · simp (disch := omega) only [hA, OK, emaU, Int.reduceToNat, s_bat, s_rep1, s_setl, List.length_replicate]; omega
      · rw [hz1', hstep, if_neg (by omega), hds1, List.append_assoc]; exact (List.take_of_length_le (by rw [← List.append_assoc, ← hds1]; simp; omega)).symm
      · simp (disch := omega) only [hA, OK, emaU, Int.reduceToNat, s_bat, s_rep1, s_setl, List.length_replicate]; omega
    all_goals
      refine CallOK.of (goodF_of F74_ok) (Tri.mono (Tri.sub [3] [] ⟨by decide, by simp [sizeH], by simp⟩ (by simp) (Tri.args (grow_more 64 kids (path ++ [(l.take z.toNat).length]) _ (inD || decide (k = 19)) (ds ++ [nd]) _ _ _ _ _ (by rw [hpl1]; omega) (by rw [hpl1]; omega) (by rw [hpl1]; exact hwc1) hwc2 hkok.2.2.2.2.2.2 hkok.2.2.2.2.2.1 hdok1 (by simp; omega) (by rw [hpl1]; exact hwn1) (by rw [hA]; simp [s_addN, hbn]) ((congrArg _ hpush).trans (mvL_cl _ _ _ (clDs _))) hkn hkc) (UpL.cons (Up.refl _) (UpL.cons (Up.refl _) (UpL.cons (by first | (rw [show (inD || decide (k = 19)) = true by simp only [(by assumption : inD = true), Bool.true_or]]; exact Up.sb _) | (rw [show (inD || decide (k = 19)) = A.ic .eql k 19 by rw [hA, s_eql, (by assumption : inD = false), Bool.false_or]]; exact Up.refl _)) (UpL.cons (Up.refl _) UpL.nil))))) (.inl rfl)) fun v hh hx => ?_)
    all_goals
      obtain ⟨v0, h0, ⟨ds2, bn2, bc2, hbn2, hbc2, hds2, hdok2, hor⟩, hv2, hh2⟩ := hx
      have hmv2 : ∀ g z, mvL g z bc2 = bc2 := fun g z => mvL_cl _ _ _ (by rw [hbc2]; exact clDs ds2)
      rcases hor with ⟨e1, e2⟩ | ⟨e1, e2⟩ <;> subst e1 <;> subst e2 <;> subst hv2 <;> subst hh2
      · rw [sub3a _ _ _ _ hmv2]
        repeat' first | (with_reducible refine OKK.loop ?_) | (with_reducible refine OKK.again ?_) | ((with_reducible refine ⟨fun hbr => ?_, fun hbr => ?_⟩) <;> (try simp (disch := omega) only [hA, OK, emaU, Int.reduceToNat, s_bat, s_rep1, s_setl, List.length_replicate, reduceCtorEq] at hbr) <;> (try (with_reducible exfalso; omega))) | ((with_reducible refine runK hA hd hQ 200 ?hk ?_); (case hk => exact trivial); (conv => arg 9; cbv); (try simp only [OK])) | ((with_reducible refine need_of ?hn ?_); (case hn => ((simp (disch := omega) only [hA, OK, emaU, Int.reduceToNat, s_bat, s_rep1, s_setl, List.length_replicate]) <;> omega))) | fail
        have hz1' : (A.ib .add .i64 z 1).toNat = z.toNat + 1 := by simp (disch := omega) only [hA, OK, emaU, Int.reduceToNat, s_bat, s_rep1, s_setl, List.length_replicate]; omega
        refine OKs.mask (msk 63 [0, 1, 2, 3, 12, 13, 14]) (OKs.mv [3] [] (by rw [hρ]; rfl) ⟨by decide, by simp [sizeH], by simp⟩ (ih _ _ ⟨A.ib .add .i64 z 1, ds2, _, _, .inr rfl, rfl, ?_, ?_, hbn2, ((hmv2 _ _).trans hbc2), ?_, hdok2⟩ ?_))
        · simp (disch := omega) only [hA, OK, emaU, Int.reduceToNat, s_bat, s_rep1, s_setl, List.length_replicate]; omega
        · simp (disch := omega) only [hA, OK, emaU, Int.reduceToNat, s_bat, s_rep1, s_setl, List.length_replicate]; omega
        · rw [hz1', hstep, if_pos (by omega), hds2, hds1, List.append_assoc, List.append_assoc, List.singleton_append]
        · simp (disch := omega) only [hA, OK, emaU, Int.reduceToNat, s_bat, s_rep1, s_setl, List.length_replicate]; omega
      · rw [sub3b _ _ _ _ hmv2]
        repeat' first | (with_reducible refine OKK.loop ?_) | (with_reducible refine OKK.again ?_) | ((with_reducible refine ⟨fun hbr => ?_, fun hbr => ?_⟩) <;> (try simp (disch := omega) only [hA, OK, emaU, Int.reduceToNat, s_bat, s_rep1, s_setl, List.length_replicate, reduceCtorEq] at hbr) <;> (try (with_reducible exfalso; omega))) | ((with_reducible refine runK hA hd hQ 200 ?hk ?_); (case hk => exact trivial); (conv => arg 9; cbv); (try simp only [OK])) | ((with_reducible refine need_of ?hn ?_); (case hn => ((simp (disch := omega) only [hA, OK, emaU, Int.reduceToNat, s_bat, s_rep1, s_setl, List.length_replicate]) <;> omega))) | fail
        have hz1' : (A.ib .add .i64 z 1).toNat = z.toNat + 1 := by simp (disch := omega) only [hA, OK, emaU, Int.reduceToNat, s_bat, s_rep1, s_setl, List.length_replicate]; omega
        refine OKs.mask (msk 63 [0, 1, 2, 3, 12, 13, 14]) (OKs.mv [4] [] (by rw [hρ]; rfl) ⟨by decide, by simp [sizeH], by simp⟩ (ih _ _ ⟨A.ib .add .i64 z 1, ds2, _, _, .inr rfl, rfl, ?_, ?_, hbn2, ((hmv2 _ _).trans hbc2), ?_, hdok2⟩ ?_))
        · simp (disch := omega) only [hA, OK, emaU, Int.reduceToNat, s_bat, s_rep1, s_setl, List.length_replicate]; omega
        · simp (disch := omega) only [hA, OK, emaU, Int.reduceToNat, s_bat, s_rep1, s_setl, List.length_replicate]; omega
        · rw [hz1', hstep, if_pos (by omega), hds2, hds1, List.append_assoc, List.append_assoc, List.singleton_append]
        · simp (disch := omega) only [hA, OK, emaU, Int.reduceToNat, s_bat, s_rep1, s_setl, List.length_replicate]; omega
theorem grow_top (l : List Fld) (n0 : Nat) (lc : List EV) (hokl : okFs l) (hll : l.length ≤ 140737488351232) (hn0 : n0 = l.length) (hlc : lc = cellsFs l) :
    Tri Tryz.prog gs 74 [.isl n0 none lc, .lit (.slice none 0 0), .lit (.bool false), .lit (.slice none 0 0)] [] fun v h' => GrowT ((nodesFs [] [] false l).take 257) v h' :=
  Tri.args (grow_top0 l [] [] false [] 0 n0 lc rfl (by simp) rfl rfl hokl hll rfl hn0 hlc) (UpL.cons (Up.refl _) (UpL.cons (Up.nil _) (UpL.cons (Up.sb _) (UpL.cons (Up.refl _) UpL.nil))))
-- emaX: s_bat
abbrev Nt := ByteArray × ByteArray
def cellsNt (x : Nt) : List EV := [.lit (.string x.1), .lit (.string x.2)]
def cellsNts : List Nt → List EV
  | [] => []
  | x :: l => cellsNt x ++ cellsNts l
def nt0 : Nt := (⟨#[]⟩, ⟨#[]⟩)
theorem nt_get : ∀ (l : List Nt) (i : Nat), i < l.length → ((cellsNts l).drop (i * 2)).take 2 = cellsNt (l.getD i nt0)
  | [], i, h => by simp at h
  | f :: l, 0, _ => rfl
  | f :: l, i + 1, h => by
    have ih := nt_get l i (by simpa using h)
    rw [cellsNts, List.drop_append, List.drop_eq_nil_of_le (by show 2 ≤ _; omega), show (cellsNt f).length = 2 from rfl, List.nil_append, show (i + 1) * 2 - 2 = i * 2 by omega, ih]
    rfl
def ntP (x : Nt) : Prop := x.1.size ≤ 256 ∧ x.2.size ≤ 256
def mayS (fs : List Fld) (ns : List Nt) : Prop := fs.length ≤ 32 ∧ ns.length ≤ 16 ∧ (∀ x ∈ ns, ntP x) ∧ allN [] (nodesFs [] [] false fs)
theorem allN_iff : ∀ (l prev : List Pl), allN prev l ↔ ∀ k, (h : k < l.length) → prev.length + k < 256 ∧ okN (prev ++ l.take k) l[k]
  | [], prev => by simp [allN]
  | p :: l, prev => by
    rw [allN, allN_iff l (prev ++ [p])]
    constructor
    · rintro ⟨h1, h2, h3⟩ k hk
      cases k with
      | zero => simpa using ⟨h1, h2⟩
      | succ k =>
        obtain ⟨a, b⟩ := h3 k (by simpa using hk)
        simp at a b ⊢
        exact ⟨by omega, b⟩
    · intro h
      refine ⟨by simpa using (h 0 (by simp)).1, by have := (h 0 (by simp)).2; simp only [List.take_zero, List.append_nil] at this; exact this, fun k hk => ?_⟩
      obtain ⟨a, b⟩ := h (k + 1) (by simpa using hk)
      simp at a b ⊢
      exact ⟨by omega, b⟩
theorem allN_take {ds : List Nd} {l : List Pl} (h : ds.map Nd.p = l.take 257) : allN [] l ↔ ∀ k, k < ds.length → k < 256 ∧ okN ((ds.take k).map Nd.p) (ds.getD k nd0).p := by
  have hl : ds.length = min 257 l.length := by rw [show ds.length = (ds.map Nd.p).length by simp, h, List.length_take]
  have key : ∀ k, (hk : k < ds.length) → (ds.take k).map Nd.p = (l.take 257).take k ∧ (ds.getD k nd0).p = l[k]'(by omega) := fun k hk => by
    refine ⟨by rw [← h, List.map_take], ?_⟩
    have h1 : (ds.map Nd.p)[k]? = l[k]? := by rw [h, List.getElem?_take]; simp; omega
    rw [List.getElem?_map, List.getElem?_eq_getElem hk, List.getElem?_eq_getElem (by omega)] at h1
    rw [List.getD_eq_getElem?_getD, List.getElem?_eq_getElem hk]
    simpa using h1
  rw [allN_iff]
  constructor
  · intro ha k hk
    obtain ⟨k1, k2⟩ := key k hk
    obtain ⟨a, b⟩ := ha k (by omega)
    simp only [List.nil_append, List.length_nil, Nat.zero_add] at a b
    rw [k1, k2, List.take_take, Nat.min_eq_left (by omega)]
    exact ⟨a, b⟩
  · intro ha k hk
    have hlt : l.length ≤ 256 := Classical.byContradiction fun hn => by
      have := (ha 256 (by omega)).1
      omega
    obtain ⟨k1, k2⟩ := key k (by omega)
    obtain ⟨a, b⟩ := ha k (by omega)
    rw [k1, k2, List.take_take, Nat.min_eq_left (by omega)] at b
    simp only [List.nil_append, List.length_nil, Nat.zero_add]
    exact ⟨a, b⟩
theorem all_ofG {α : Type} {l : List α} {d : α} {q : α → Prop} {n : Nat} (hn : l.length ≤ n) (h : ∀ j, j < n → q (l.getD j d)) (g : α) (hg : g ∈ l) : q g := by
  obtain ⟨j, hj, rfl⟩ := List.getElem_of_mem hg
  have := h j (by omega)
  rwa [List.getD_eq_getElem?_getD, List.getElem?_eq_getElem hj] at this
theorem sub0a (a b : EO) {x : List EV} (h : ∀ g z, mvL g z x = x) : subH [] [a, b] [.blk x] = [a, b, .blk x] := by
  show [a, b, EO.blk (mvL _ _ x)] = _
  rw [h]
def nthC : EC → Nat → EC
  | c, 0 => c
  | .seq _ b, n + 1 => nthC b n
  | _, _ + 1 => .skip
def fstC : EC → EC
  | .seq a _ => a
  | _ => .skip
def IsF (p : Prop) (v : EV) : Prop := ∃ (e at' : Int) (pn : Nat) (pc : List EV), v = .agg [.lit (.int .i64 e), .isl pn none pc, .lit (.int .i64 at')] ∧ (e = 0 ↔ p)
theorem IsF.cl {p : Prop} {v : EV} (h : IsF p v) : clE v = true := by obtain ⟨e, a, pn, pc, rfl, _⟩ := h; rfl
theorem Up.agg3 {a b c a' b' c' : EV} (h1 : Up a a') (h2 : Up b b') (h3 : Up c c') : Up (.agg [a, b, c]) (.agg [a', b', c']) := fun w I ρ cv hr => by
  cases hr with
  | agg _ c vs hl hc =>
    refine .agg _ _ _ (by simpa using hl) fun j e v he hv => ?_
    match j, he with
    | 0, he => simp at he; subst he; exact h1 _ _ _ _ (hc 0 _ v rfl hv)
    | 1, he => simp at he; subst he; exact h2 _ _ _ _ (hc 1 _ v rfl hv)
    | 2, he => simp at he; subst he; exact h3 _ _ _ _ (hc 2 _ v rfl hv)
theorem FinR.f {rs : List ER} {p : Prop} {s : St} {e at' : Int} {pe : EV} {pn : Nat} {pc : List EV} (hv : retE rs s.t s.h = some (.agg [.lit (.int .i64 e), pe, .lit (.int .i64 at')])) (hu : Up pe (.isl pn none pc)) (hp : e = 0 ↔ p) :
    FinR rs (fun v _ => ∃ v', IsF p v' ∧ Up v v') s := ⟨_, hv, _, ⟨e, at', pn, pc, rfl, hp⟩, Up.agg3 (Up.refl _) hu (Up.refl _)⟩
theorem Tri.faultC {P : Program} {G : List (List EV)} {f : FuncId} {args : List EV} {p : Prop} (ha : clL args = true) (t : Tri P G f args [] fun v _ => ∃ v', IsF p v' ∧ Up v v') (h : EH) : Tri P G f args h fun v h' => IsF p v ∧ h' = h :=
  Tri.litC (fun v hv => hv.cl) ha (Tri.up t fun v h' ⟨v', h1, h2⟩ => ⟨v', h1, h2⟩) h
set_option maxRecDepth 100000 in
set_option maxHeartbeats 8000000 in
theorem checkR_ok (fs : List Fld) (ns : List Nt) (hfs : fs.length ≤ 140737488351232) (hns : ns.length ≤ 140737488351232) (hok : okFs fs) (hnt : ∀ x ∈ ns, x.1.size ≤ 140737488351232 ∧ x.2.size ≤ 140737488351232) (h : EH) :
    Tri Tryz.prog gs 73 [.agg [.isl fs.length none (cellsFs fs), .isl ns.length none (cellsNts ns)]] h fun v h' => IsF (mayS fs ns) v ∧ h' = h := by
  refine Tri.faultC rfl (Tri_of F73_ok fun I0 ρ0 w0 Q hρ hQ => ?_) h
  obtain ⟨A, hA⟩ : ∃ A, A = stdA := ⟨_, rfl⟩
  have hgrow := grow_top fs fs.length (cellsFs fs) hok hfs rfl rfl
  have hng := nt_get ns
  obtain ⟨fn, hfn⟩ : ∃ n, n = fs.length := ⟨_, rfl⟩
  obtain ⟨fc, hfc⟩ : ∃ n, n = cellsFs fs := ⟨_, rfl⟩
  obtain ⟨nn, hnn⟩ : ∃ n, n = ns.length := ⟨_, rfl⟩
  obtain ⟨nc, hnc⟩ : ∃ n, n = cellsNts ns := ⟨_, rfl⟩
  rw [← hfn, ← hfc] at hgrow
  rw [← hfn, ← hfc, ← hnn, ← hnc]
  with_reducible refine runS hA hd hQ 200 ?hk ?_
  case hk => exact trivial
  conv => arg 9; cbv
  try simp only [OK]
  repeat' first | (with_reducible refine OKK.loop ?_) | (with_reducible refine OKK.again ?_) | ((with_reducible refine ⟨fun hbr => ?_, fun hbr => ?_⟩) <;> (try simp (disch := omega) only [hA, OK, emaU, Int.reduceToNat, s_bat, reduceCtorEq] at hbr) <;> (try (with_reducible exfalso; omega))) | ((with_reducible refine runK hA hd hQ 200 ?hk ?_); (case hk => exact trivial); (conv => arg 9; cbv); (try simp only [OK])) | ((with_reducible refine need_of ?hn ?_); (case hn => ((simp (disch := omega) only [hA, OK, emaU, Int.reduceToNat, s_bat]) <;> omega))) | fail
  all_goals try ((with_reducible refine FinR.self ?_); refine FinR.f rfl (Up.nil []) ⟨fun h => absurd h (by decide), fun h => by have h1 := h.1; have h2 := h.2.1; simp (disch := omega) only [hA, OK, emaU, Int.reduceToNat, s_bat] at *; omega⟩)
  refine OKs.mask (msk 61 [1, 2, 19, 20, 21]) ?_
  refine OKs.loopN (fun n st => ∃ z : Int, st = ⟨mkT 61 [(1, .ptr 0 0), (2, .ptr 1 0), (19, .isl nn none nc), (20, .lit (.int .i64 (A.ofn nn))), (21, .lit (.int .i64 z))], [.blk [.isl fn none fc, .isl nn none nc], .blk [.lit (.int .i64 0), .lit (.slice none 0 0), .lit (.int .i64 0)]]⟩ ∧ n = (nn - z).toNat ∧ 0 ≤ z ∧ z ≤ nn ∧ ∀ j, j < z.toNat → ntP (ns.getD j nt0)) (fun n st hs' ih => ?_) ⟨0, rfl, rfl, by omega, by omega, fun j hj => absurd hj (by simp)⟩
  obtain ⟨z, rfl, hn, hz1, hz2, hz3⟩ := hs'
  obtain ⟨x, hx⟩ : ∃ x, x = ns.getD z.toNat nt0 := ⟨_, rfl⟩
  have hL : z < nn → List.take 2 (List.drop (A.idx 0 z 2) nc) = cellsNt x := fun hz => by rw [hA, s_idx, Nat.zero_add, hnc, hng z.toNat (by omega), ← hx]
  have hxm : z < nn → x ∈ ns := fun hz => by rw [hx, List.getD_eq_getElem?_getD, List.getElem?_eq_getElem (by omega)]; exact List.getElem_mem _
  have hxs : z < nn → x.1.size ≤ 140737488351232 ∧ x.2.size ≤ 140737488351232 := fun hz => hnt x (hxm hz)
  have hst := allP_step (p := fun j => ntP (ns.getD j nt0)) hz1 hz3
  simp only [← hx] at hst
  obtain ⟨key, text⟩ := x
  simp only [cellsNt] at hL hxs
  with_reducible refine runS hA hd hQ 1 ?hk ?_
  case hk => exact trivial
  conv => arg 9; cbv
  try simp only [OK]
  repeat' first | (with_reducible refine OKK.loop ?_) | (with_reducible refine OKK.again ?_) | (with_reducible refine OKK.stopS (some 42) ?_) | (with_reducible refine OKK.stopO (some 42) ?_) | ((with_reducible refine ⟨fun hbr => ?_, fun hbr => ?_⟩) <;> (try simp (disch := omega) only [hA, OK, emaU, Int.reduceToNat, s_bat, reduceCtorEq] at hbr) <;> (try (with_reducible exfalso; omega))) | ((with_reducible refine runK hA hd hQ 1 ?hk ?_); (case hk => exact trivial); (conv => arg 9; cbv); (try simp only [OK])) | ((with_reducible refine need_of ?hn ?_); (case hn => ((simp (disch := omega) only [hA, OK, emaU, Int.reduceToNat, s_bat]) <;> omega))) | ((refine ⟨_, _, ?l1, (hL (by omega)), rfl, ?_⟩); (case l1 => exact rfl)) | fail
  all_goals try ((with_reducible refine FinR.self ?_); refine FinR.f rfl (Up.nil []) ⟨fun h => absurd h (by decide), fun h => by have h1 := h.2.2.1 _ (hxm (by omega)); have h2 := h1.1; have h3 := h1.2; simp only at h2 h3; omega⟩)
  · refine OKs.mask (msk 61 [1, 2, 19, 20, 21]) (OKs.mv [0, 1] [] (by rw [hρ]; rfl) ⟨by decide, by simp [sizeH], by simp⟩ (ih _ _ ⟨_, rfl, rfl, ?_, ?_, ?_⟩ ?_))
    all_goals simp (disch := omega) only [hA, OK, emaU, Int.reduceToNat, s_bat]
    all_goals first
      | omega
      | exact hst ⟨by simp only; omega, by simp only; omega⟩
  have hnall : ∀ x ∈ ns, ntP x := all_ofG (by omega) hz3
  clear hst hxs hxm hx hL
  refine CallOK.of (goodF_of F74_ok) (Tri.mono (Tri.sub [] [] ⟨by simp, by simp, by simp⟩ (by simp) hgrow (.inl rfl)) fun v hh hx => ?_)
  obtain ⟨v0, h0, ⟨ds, bn, bc, hbn, hbc, hds, hdok, hor⟩, hv2, hh2⟩ := hx
  have hdl : ds.length ≤ 257 := by rw [show ds.length = (ds.map Nd.p).length by simp, hds]; simp; omega
  have hmv2 : ∀ g z, mvL g z bc = bc := fun g z => mvL_cl _ _ _ (by rw [hbc]; exact clDs ds)
  have hmay : mayS fs ns ↔ ∀ k, k < ds.length → k < 256 ∧ okN ((ds.take k).map Nd.p) (ds.getD k nd0).p := by
    rw [← allN_take hds]; exact ⟨fun h => h.2.2.2, fun h => ⟨by omega, by omega, hnall, h⟩⟩
  have hwr := fun (y : Int) (hy : 0 ≤ y) (hy2 : y < bn) (h : EH) => wrongR_ok ds y.toNat (by omega) hdl hdok h
  have hdg := fun (y : Int) (hy : 0 ≤ y) (hy2 : y < bn) => ds_get ds y.toNat (by omega)
  rw [← hbn, ← hbc] at hwr
  rw [← hbc] at hdg
  have rest : OKs Tryz.prog gs none I0 ρ0 w0 Q [.c (fstC (nthC F73.body 5)), .c (nthC F73.body 6)] ⟨mkT 61 [(2, .ptr 1 0), (5, .isl bn none bc)], [.blk [.isl fn none fc, .isl nn none nc], .blk [.lit (.int .i64 0), .lit (.slice none 0 0), .lit (.int .i64 0)]]⟩ := by
    with_reducible refine runS hA hd hQ 200 ?hk ?_
    case hk => exact trivial
    conv => arg 9; cbv
    try simp only [OK]
    repeat' first | (with_reducible refine OKK.loop ?_) | (with_reducible refine OKK.again ?_) | ((with_reducible refine ⟨fun hbr => ?_, fun hbr => ?_⟩) <;> (try simp (disch := omega) only [hA, OK, emaU, Int.reduceToNat, s_bat, reduceCtorEq] at hbr) <;> (try (with_reducible exfalso; omega))) | ((with_reducible refine runK hA hd hQ 200 ?hk ?_); (case hk => exact trivial); (conv => arg 9; cbv); (try simp only [OK])) | ((with_reducible refine need_of ?hn ?_); (case hn => ((simp (disch := omega) only [hA, OK, emaU, Int.reduceToNat, s_bat]) <;> omega))) | fail
    refine OKs.mask (msk 61 [2, 5, 43, 44]) ?_
    refine OKs.loopN (fun n st => ∃ y : Int, st = ⟨mkT 61 [(2, .ptr 1 0), (5, .isl bn none bc), (43, .lit (.int .i64 (A.ofn bn))), (44, .lit (.int .i64 y))], [.blk [.isl fn none fc, .isl nn none nc], .blk [.lit (.int .i64 0), .lit (.slice none 0 0), .lit (.int .i64 0)]]⟩ ∧ n = (bn - y).toNat ∧ 0 ≤ y ∧ y ≤ bn ∧ ∀ j, j < y.toNat → j < 256 ∧ okN ((ds.take j).map Nd.p) (ds.getD j nd0).p) (fun n st hs' ih => ?_) ⟨0, rfl, rfl, by omega, by omega, fun j hj => absurd hj (by simp)⟩
    obtain ⟨y, rfl, hyn, hy1, hy2, hy3⟩ := hs'
    have hst := allP_step hy1 hy3
    have hw := hwr y hy1
    rw [show ((y.toNat : Nat) : Int) = y by omega] at hw
    have hLp : y < bn → List.take 1 (List.drop (A.add (A.idx 0 y 10) 0) bc) = [.isl (ds.getD y.toNat nd0).p.path.length (ds.getD y.toNat nd0).cap (ds.getD y.toNat nd0).pc] := fun hy => by
      have := hdg y hy1 hy
      rw [hA, s_addN, s_idx, Nat.zero_add, Nat.add_zero]
      rw [show List.take 1 (List.drop (y.toNat * 10) bc) = List.take 1 (List.take 10 (List.drop (y.toNat * 10) bc)) by rw [List.take_take]; rfl, this]
      rfl
    have hyd : y < bn → y.toNat < ds.length := fun h => by omega
    generalize (ds.getD y.toNat nd0).p.path.length = dn, (ds.getD y.toNat nd0).cap = dc, (ds.getD y.toNat nd0).pc = dp at hLp
    with_reducible refine runS hA hd hQ 200 ?hk ?_
    case hk => exact trivial
    conv => arg 9; cbv
    try simp only [OK]
    repeat' first | (with_reducible refine OKK.loop ?_) | (with_reducible refine OKK.again ?_) | ((with_reducible refine ⟨fun hbr => ?_, fun hbr => ?_⟩) <;> (try simp (disch := omega) only [hA, OK, emaU, Int.reduceToNat, s_bat, reduceCtorEq] at hbr) <;> (try (with_reducible exfalso; omega))) | ((with_reducible refine runK hA hd hQ 200 ?hk ?_); (case hk => exact trivial); (conv => arg 9; cbv); (try simp only [OK])) | ((with_reducible refine need_of ?hn ?_); (case hn => ((simp (disch := omega) only [hA, OK, emaU, Int.reduceToNat, s_bat]) <;> omega))) | ((refine ⟨_, _, ?l1, (hLp (by omega)), rfl, ?_⟩); (case l1 => exact rfl)) | (refine CallOK.of (goodF_of F100_ok) (Tri.mono (hw (by omega) _) fun v hh hx => ?_); (obtain ⟨⟨z, hv, hz⟩, he⟩ := hx; subst hv; subst he)) | fail
    · exact FinR.f rfl (Up.cap _ _ _) ⟨fun h => absurd h hbr, fun h => absurd (hz.2 (hmay.1 h _ (hyd (by assumption)))) hbr⟩
    · refine OKs.mask (msk 61 [2, 5, 43, 44]) (ih _ _ ⟨_, rfl, rfl, ?_, ?_, ?_⟩ ?_)
      all_goals simp (disch := omega) only [hA, OK, emaU, Int.reduceToNat, s_bat]
      all_goals first
        | omega
        | exact hst (hz.1 (Classical.byContradiction hbr))
    · exact FinR.f rfl (Up.nil []) ⟨fun _ => hmay.2 (fun k hk => hy3 k (by omega)), fun _ => rfl⟩
  rcases hor with ⟨e0, e1, e2⟩ | ⟨e1, e2⟩ <;> subst e1 <;> subst e2 <;> subst hv2 <;> subst hh2
  · with_reducible refine runK hA hd hQ 1 ?hk ?_
    case hk => exact trivial
    conv => arg 9; cbv
    try simp only [OK]
    repeat' first | (with_reducible refine OKK.loop ?_) | (with_reducible refine OKK.again ?_) | (with_reducible refine OKK.stopS (some 42) ?_) | (with_reducible refine OKK.stopO (some 42) ?_) | ((with_reducible refine ⟨fun hbr => ?_, fun hbr => ?_⟩) <;> (try simp (disch := omega) only [hA, OK, emaU, Int.reduceToNat, s_bat, reduceCtorEq] at hbr) <;> (try (with_reducible exfalso; omega))) | ((with_reducible refine runK hA hd hQ 1 ?hk ?_); (case hk => exact trivial); (conv => arg 9; cbv); (try simp only [OK])) | ((with_reducible refine need_of ?hn ?_); (case hn => ((simp (disch := omega) only [hA, OK, emaU, Int.reduceToNat, s_bat]) <;> omega))) | fail
    refine OKs.mask (msk 61 [2, 5]) ?_
    refine OKs.up 5 (.isl bn none bc) (by rw [e0, show bc = [] by rw [hbc, List.length_eq_zero_iff.1 (hbn.symm.trans e0)]; rfl]; exact Up.nil _) ?_
    exact rest
  · rw [sub0a _ _ hmv2]
    with_reducible refine runK hA hd hQ 1 ?hk ?_
    case hk => exact trivial
    conv => arg 9; cbv
    try simp only [OK]
    repeat' first | (with_reducible refine OKK.loop ?_) | (with_reducible refine OKK.again ?_) | (with_reducible refine OKK.stopS (some 42) ?_) | (with_reducible refine OKK.stopO (some 42) ?_) | ((with_reducible refine ⟨fun hbr => ?_, fun hbr => ?_⟩) <;> (try simp (disch := omega) only [hA, OK, emaU, Int.reduceToNat, s_bat, reduceCtorEq] at hbr) <;> (try (with_reducible exfalso; omega))) | ((with_reducible refine runK hA hd hQ 1 ?hk ?_); (case hk => exact trivial); (conv => arg 9; cbv); (try simp only [OK])) | ((with_reducible refine need_of ?hn ?_); (case hn => ((simp (disch := omega) only [hA, OK, emaU, Int.reduceToNat, s_bat]) <;> omega))) | fail
    refine OKs.mask (msk 61 [2, 5]) (OKs.mv [0, 1] [2] (by rw [hρ]; rfl) ⟨by decide, by simp [sizeH], fun id hid => by simp at hid; subst hid; exact ⟨_, rfl, by rw [hbc]; exact clDs ds⟩⟩ ?_)
    exact rest
section
-- emaX: s_bat, s_rep1, s_setl, List.length_replicate
theorem cloneNil_ok (h : EH) : Tri Tryz.prog gs 113 [.lit (.slice none 0 0)] h fun v h' => v = .lit (.slice none 0 0) ∧ h' = h := by
  refine Tri.litC (φ := fun v => v = .lit (.slice none 0 0)) (fun v hv => by rw [hv]; rfl) rfl (Tri_of F113_ok fun I0 ρ0 w0 Q hρ hQ => ?_) h
  obtain ⟨A, hA⟩ : ∃ A, A = stdA := ⟨_, rfl⟩
  with_reducible refine runS hA hd hQ 200 ?hk ?_
  case hk => exact trivial
  conv => arg 9; cbv
  try simp only [OK]
  repeat' first | ((with_reducible refine ⟨fun hbr => ?_, fun hbr => ?_⟩) <;> (try simp (disch := omega) only [hA, OK, emaU, Int.reduceToNat, s_bat, s_rep1, s_setl, List.length_replicate, reduceCtorEq] at hbr) <;> (try (with_reducible exfalso; omega))) | ((with_reducible refine runK hA hd hQ 200 ?hk ?_); (case hk => exact trivial); (conv => arg 9; cbv); (try simp only [OK])) | ((with_reducible refine need_of ?hn ?_); (case hn => ((simp (disch := omega) only [hA, OK, emaU, Int.reduceToNat, s_bat, s_rep1, s_setl, List.length_replicate]) <;> omega))) | fail
  exact FinR.intro rfl rfl
set_option maxHeartbeats 2000000 in
theorem clone_ok (n : Nat) (c : List EV) (h : EH) (hn : 1 ≤ n) (hn2 : n ≤ 65) (hc : c.length = n) (hcl : clL c = true) :
    Tri Tryz.prog gs 113 [.isl n none c] h fun v h' => v = .sl 1 (sizeH h) 0 n none ∧ h' = pushH h (.blk c) := by
  have t : Tri Tryz.prog gs 113 [.isl n none c] [] fun v h' => v = .sl 1 0 0 n none ∧ h' = [.blk c] := by
    refine Tri.mv (R := fun v h' => v = .sl 1 1 0 n none ∧ ∃ o t, h' = o :: .blk c :: t) (Tri_of F113_ok fun I0 ρ0 w0 Q hρ hQ => ?_) fun v h' ⟨hv, o, t, ht⟩ => ?_
    · obtain ⟨A, hA⟩ : ∃ A, A = stdA := ⟨_, rfl⟩
      with_reducible refine runS hA hd hQ 200 ?hk ?_
      case hk => exact trivial
      conv => arg 9; cbv
      try simp only [OK]
      repeat' first | ((with_reducible refine ⟨fun hbr => ?_, fun hbr => ?_⟩) <;> (try simp (disch := omega) only [hA, OK, emaU, Int.reduceToNat, s_bat, s_rep1, s_setl, List.length_replicate, reduceCtorEq] at hbr) <;> (try (with_reducible exfalso; omega))) | ((with_reducible refine runK hA hd hQ 200 ?hk ?_); (case hk => exact trivial); (conv => arg 9; cbv); (try simp only [OK])) | ((with_reducible refine need_of ?hn ?_); (case hn => ((simp (disch := omega) only [hA, OK, emaU, Int.reduceToNat, s_bat, s_rep1, s_setl, List.length_replicate]) <;> omega))) | fail
      have e : A.app (A.tak (A.mul 0 1) (A.drp 0 [])) (A.tak (A.mul n 1) c) = c := by rw [hA]; simp [s_app, s_tak, s_drp, s_mulN, ← hc]
      exact FinR.intro rfl ⟨by rw [hA]; simp only [s_addN, Nat.zero_add]; rfl, _, _, congrArg (fun x => [EO.blk [], EO.blk x]) e⟩
    · subst hv; subst ht
      refine ⟨[1], [], rfl, ⟨by simp, by simp [sizeH], by simp⟩, rfl, ?_⟩
      simp [mvH, getH, mvO, inL, mvL_cl _ _ _ hcl]
  refine (Tri.frame (h := h) (R := fun v h' => v = .sl 1 0 0 n none ∧ h' = [.blk c]) [] (by simp) t (.inl rfl)).mono fun v h' ⟨v0, h0, ⟨e1, e2⟩, e3, e4⟩ => ?_
  subst e1; subst e2; subst e3; subst e4
  exact ⟨rfl, by simp only [appH, mvO, mvL_cl _ _ _ hcl]⟩
def H10 (fn nn : Nat) (fc nc res : List EV) (cnt : Int) (ie : List (EV × EV)) (LT : List EV) (LA LB : EC) (st : Nat) (pd : PD) : EH :=
  [.blk [.isl fn none fc, .isl nn none nc], .blk res, .blk [.lit (.int .i64 cnt)], .emap ie, .blk [.mp 3], .blk [.isl fn none fc], .blk [.lit (.int .i64 65)], .lp LT [46] LA LB st pd, .blk [.yl 7], .blk [.fn (.func 112) [] [.ptr 8 0, .ptr 6 0, .ptr 9 0]]]
def LowT (LT : List EV) : Prop := ∀ g z, (∀ i, i < 10 → g i = some i) → mvL g z LT = LT
def resOK : List EV := [.lit (.int .i64 0), .lit (.slice none 0 0), .lit (.int .i64 0)]
def resNo (e : Int) (pn : Nat) (pc : List EV) : List EV := [.lit (.int .i64 e), .isl pn none pc, .lit (.int .i64 0)]
def WalkR (fn nn : Nat) (fc nc : List EV) (LT : List EV) (LA LB : EC) (ok : Prop) (all : List Pl) (tail : EH) (v : EV) (h : EH) : Prop :=
  (ok ∧ v = .sb true ∧ ∃ idm, IdsOf idm all ∧ h = H10 fn nn fc nc resOK all.length (imE idm) LT LA LB 0 none ++ tail) ∨
  (¬ ok ∧ v = .sb false ∧ ∃ e pn pc cnt idm, e ≠ 0 ∧ h = H10 fn nn fc nc (resNo e pn pc) cnt (imE idm) LT LA LB 2 (some none) ++ tail)
def RoundOK (fn nn : Nat) (fc nc : List EV) (LT : List EV) (LA LB : EC) : Prop :=
  ∀ (prev : List Pl) (idm : List (Int × Int)) (p : Pl) (rest : List Fld) (wn an kn : Nat) (wc ac kc : List EV) (cnt : Int) (ie : List (EV × EV)), IdsOf idm prev → prev.length ≤ 256 → p.path.length ≤ 65 → clL wc = true → p.ahead.length ≤ 140737488351232 → okF p.f →
    wn = p.path.length → an = p.ahead.length → ac = cellsFs (p.ahead ++ rest) → kn = p.f.kids.length → kc = cellsFs p.f.kids → cnt = prev.length → ie = imE idm →
    TriY Tryz.prog gs 7 [.agg [.isl wn none wc, .isl an none ac, .lit (.string p.f.nm), .lit (.bool p.f.nul), .lit (.int .i64 p.f.kind), .lit (.int .i64 p.f.width), .lit (.int .i64 p.f.id), .lit (.int .i64 p.f.idx), .isl kn none kc, .sb p.inD]]
      (H10 fn nn fc nc resOK cnt ie LT LA LB 0 none ++ [.blk [.lit (.string p.f.nm), .lit (.bool p.f.nul), .lit (.int .i64 p.f.kind), .lit (.int .i64 p.f.width), .lit (.int .i64 p.f.id), .lit (.int .i64 p.f.idx), .isl kn none kc]])
      (WalkR fn nn fc nc LT LA LB (prev.length < 256 ∧ okN prev p) (prev ++ [p]) [.blk [.lit (.string p.f.nm), .lit (.bool p.f.nul), .lit (.int .i64 p.f.kind), .lit (.int .i64 p.f.width), .lit (.int .i64 p.f.id), .lit (.int .i64 p.f.idx), .isl kn none kc]])
section
variable {fn nn : Nat} {fc nc res : List EV} {cnt : Int} {ie : List (EV × EV)} {LT : List EV} {LA LB : EC} {st : Nat} {pd : PD}
abbrev L10 : List Nat := [0, 1, 2, 3, 4, 5, 6, 7, 8, 9]
abbrev L11 : List Nat := [0, 1, 2, 3, 4, 5, 6, 7, 8, 9, 10]
theorem mvH10 (hLT : LowT LT) (hres : clL res = true) (hie : ∀ g z, mvM g z ie = ie) (t : EH) :
    mvH L10 [] (H10 fn nn fc nc res cnt ie LT LA LB st pd ++ t) L10 = H10 fn nn fc nc res cnt ie LT LA LB st pd := by
  show ([.blk [.isl fn none fc, .isl nn none nc], .blk (mvL _ _ res), .blk [.lit (.int .i64 cnt)], .emap (mvM _ _ ie), .blk [.mp 3], .blk [.isl fn none fc], .blk [.lit (.int .i64 65)], .lp (mvL (mvG L10 []) (mvZ [] _) LT) [46] LA LB st pd, .blk [.yl 7], .blk [.fn (.func 112) [] [.ptr 8 0, .ptr 6 0, .ptr 9 0]]] : EH) = _
  rw [hie, hLT _ _ (by decide), mvL_cl _ _ _ hres]
  rfl
theorem mvH11 (fr : List Nat) (hfr : fr = [12] ∨ fr = [13]) (hLT : LowT LT) (hres : clL res = true) (hie : ∀ g z, mvM g z ie = ie) (fb : List EV) (hfb : clL fb = true) (t : EH) :
    mvH L11 fr (H10 fn nn fc nc res cnt ie LT LA LB st pd ++ (.blk fb :: t)) L11 = H10 fn nn fc nc res cnt ie LT LA LB st pd ++ [.blk fb] := by
  rcases hfr with rfl | rfl
  · show ([.blk [.isl fn none fc, .isl nn none nc], .blk (mvL _ _ res), .blk [.lit (.int .i64 cnt)], .emap (mvM _ _ ie), .blk [.mp 3], .blk [.isl fn none fc], .blk [.lit (.int .i64 65)], .lp (mvL (mvG L11 [12]) (mvZ [12] _) LT) [46] LA LB st pd, .blk [.yl 7], .blk [.fn (.func 112) [] [.ptr 8 0, .ptr 6 0, .ptr 9 0]], .blk (mvL _ _ fb)] : EH) = _
    rw [hie, hLT _ _ (by decide), mvL_cl _ _ _ hres, mvL_cl _ _ _ hfb]
    rfl
  · show ([.blk [.isl fn none fc, .isl nn none nc], .blk (mvL _ _ res), .blk [.lit (.int .i64 cnt)], .emap (mvM _ _ ie), .blk [.mp 3], .blk [.isl fn none fc], .blk [.lit (.int .i64 65)], .lp (mvL (mvG L11 [13]) (mvZ [13] _) LT) [46] LA LB st pd, .blk [.yl 7], .blk [.fn (.func 112) [] [.ptr 8 0, .ptr 6 0, .ptr 9 0]], .blk (mvL _ _ fb)] : EH) = _
    rw [hie, hLT _ _ (by decide), mvL_cl _ _ _ hres, mvL_cl _ _ _ hfb]
    rfl
theorem subH10 {res0 : List EV} {cnt0 : Int} {ie0 : List (EV × EV)} {st0 : Nat} {pd0 : PD} (hLT : LowT LT) (hres : clL res = true) (hie : ∀ g z, mvM g z ie = ie) (fb : EO) :
    subH L10 (H10 fn nn fc nc res0 cnt0 ie0 LT LA LB st0 pd0 ++ [fb]) (H10 fn nn fc nc res cnt ie LT LA LB st pd) = H10 fn nn fc nc res cnt ie LT LA LB st pd ++ [fb] := by
  show ([.blk [.isl fn none fc, .isl nn none nc], .blk (mvL _ _ res), .blk [.lit (.int .i64 cnt)], .emap (mvM _ _ ie), .blk [.mp 3], .blk [.isl fn none fc], .blk [.lit (.int .i64 65)], .lp (mvL (bkG L10 11) (fun _ => none) LT) [46] LA LB st pd, .blk [.yl 7], .blk [.fn (.func 112) [] [.ptr 8 0, .ptr 6 0, .ptr 9 0]], fb] : EH) = _
  rw [hie, hLT _ _ (by decide), mvL_cl _ _ _ hres]
  rfl
end
section
variable {P : Program} {G : List (List EV)} {ro : Option Nat} {I0 : Imm} {ρ0 : Ren} {w0 : World} {Q : Exit → Act → World → Prop}
theorem OKs.mvE {k : List KI} {s : St} (σ fr : List Nat) {hn : EH} (hσ : σ.take ρ0.length = List.range ρ0.length) (ok : okMv σ fr s.h) (e : mvH σ fr s.h σ = hn) (h : OKs P G ro I0 ρ0 w0 Q k ⟨mvL (mvG σ fr) (mvZ fr s.h) s.t, hn⟩) : OKs P G ro I0 ρ0 w0 Q k s :=
  OKs.mv σ fr hσ ok (by show OKs P G ro I0 ρ0 w0 Q k ⟨_, mvH σ fr s.h σ⟩; rw [e]; exact h)
end
def sndC : EC → EC
  | .seq _ b => b
  | _ => .skip
def blkC : EC → EC
  | .block _ c => c
  | _ => .skip
def lpC : EC → EC
  | .loop c => c
  | _ => .skip
theorem allN_len : ∀ {l prev : List Pl}, allN prev l → l = [] ∨ prev.length + l.length ≤ 256
  | [], _, _ => .inl rfl
  | p :: l, prev, h => .inr (by
    have := allN_len h.2.2
    rcases this with h1 | h1
    · have := h.1; rw [h1]; simp; omega
    · simp at h1 ⊢; omega)
def WalkR0 (fn nn : Nat) (fc nc : List EV) (LT : List EV) (LA LB : EC) (ok : Prop) (all : List Pl) (v : EV) (h : EH) : Prop :=
  (ok ∧ v = .lit (.bool true) ∧ ∃ idm t, IdsOf idm all ∧ h = H10 fn nn fc nc resOK all.length (imE idm) LT LA LB 0 none ++ t) ∨
  (¬ ok ∧ v = .lit (.bool false) ∧ ∃ e pn pc cnt idm t, e ≠ 0 ∧ h = H10 fn nn fc nc (resNo e pn pc) cnt (imE idm) LT LA LB 2 (some none) ++ t)
theorem WalkR0.done {fn nn : Nat} {fc nc : List EV} {LT : List EV} {LA LB : EC} {ok : Prop} {all : List Pl} {P : Program} {G : List (List EV)} {f : FuncId} {args : List EV} {h : EH} (hLT : LowT LT) (hs : sizeH h = 10) (t : Tri P G f args h (WalkR0 fn nn fc nc LT LA LB ok all)) :
    Tri P G f args h (WalkR fn nn fc nc LT LA LB ok all []) := by
  refine Tri.up (Tri.mv (R' := fun v h' => ∃ b, v = .lit (.bool b) ∧ WalkR fn nn fc nc LT LA LB ok all [] (.sb b) h') t fun v h' hr => ?_) fun v h' ⟨b, h1, h2⟩ => ⟨_, h2, by rw [h1]; exact Up.sb _⟩
  refine ⟨L10, [], by rw [hs]; rfl, ?_⟩
  rcases hr with ⟨h1, h2, idm, t, h3, h4⟩ | ⟨h1, h2, e, pn, pc, cnt, idm, t, h3, h4⟩ <;> subst h2 <;> subst h4
  · refine ⟨⟨by decide, fun id hid => ?_, fun id hid => by cases hid⟩, true, rfl, .inl ⟨h1, rfl, idm, h3, ?_⟩⟩
    · have : id < 10 := by revert hid; revert id; decide
      show id < _
      simp only [H10, List.cons_append, sizeH]; omega
    · rw [mvH10 hLT rfl (fun g z => mvM_im g z idm), List.append_nil]
  · refine ⟨⟨by decide, fun id hid => ?_, fun id hid => by cases hid⟩, false, rfl, .inr ⟨h1, rfl, e, pn, pc, cnt, idm, h3, ?_⟩⟩
    · have : id < 10 := by revert hid; revert id; decide
      show id < _
      simp only [H10, List.cons_append, sizeH]; omega
    · rw [mvH10 hLT rfl (fun g z => mvM_im g z idm), List.append_nil]
def wayE (path : List Nat) (pc : List EV) : EV := if path = [] then .lit (.slice none 0 0) else .isl path.length none pc
set_option maxRecDepth 100000 in
set_option maxHeartbeats 8000000 in
theorem down_ok (fn nn : Nat) (fc nc : List EV) (LT : List EV) (LA LB : EC) (hLT : LowT LT) (hround : RoundOK fn nn fc nc LT LA LB) :
    ∀ (lev : Nat) (l : List Fld) (path : List Nat) (pe : EV) (pc : List EV) (inD : Bool) (prev : List Pl) (idm : List (Int × Int)) (n0 : Nat) (lc : List EV) (cnt : Int) (ie : List (EV × EV)),
    65 ≤ path.length + lev → path.length ≤ 64 → pe = wayE path pc → pc.length = path.length → clL pc = true → okFs l → l.length ≤ 140737488351232 → IdsOf idm prev → prev.length ≤ 256 → n0 = l.length → lc = cellsFs l → cnt = prev.length → ie = imE idm →
    Tri Tryz.prog gs 112 [pe, .isl n0 none lc, .sb inD, .ptr 8 0, .ptr 6 0, .ptr 9 0] (H10 fn nn fc nc resOK cnt ie LT LA LB 0 none)
      (WalkR fn nn fc nc LT LA LB (allN prev (nodesFs path [] inD l)) (prev ++ nodesFs path [] inD l) []) := by
  intro lev
  induction lev with
  | zero => intro l path pe pc inD prev idm n0 lc cnt ie h1 h2; omega
  | succ lev ihl =>
  intro l path pe pc inD prev idm n0 lc cnt ie hlev hp64 hpe hpc hpcl hokl hll hids hprev hn0 hlc hcnt hie
  refine WalkR0.done hLT rfl (Tri_of F112_ok fun I0 ρ0 w0 Q hρ hQ => ?_)
  obtain ⟨A, hA⟩ : ∃ A, A = stdA := ⟨_, rfl⟩
  unfold H10
  with_reducible refine runS hA hd hQ 200 ?hk ?_
  case hk => exact trivial
  conv => arg 9; cbv
  try simp only [OK]
  repeat' first | (with_reducible refine OKK.loop ?_) | (with_reducible refine OKK.again ?_) | ((with_reducible refine ⟨fun hbr => ?_, fun hbr => ?_⟩) <;> (try simp (disch := omega) only [hA, OK, emaU, Int.reduceToNat, s_bat, s_rep1, s_setl, List.length_replicate, reduceCtorEq] at hbr) <;> (try (with_reducible exfalso; omega))) | ((with_reducible refine runK hA hd hQ 200 ?hk ?_); (case hk => exact trivial); (conv => arg 9; cbv); (try simp only [OK])) | ((with_reducible refine need_of ?hn ?_); (case hn => ((simp (disch := omega) only [hA, OK, emaU, Int.reduceToNat, s_bat, s_rep1, s_setl, List.length_replicate]) <;> omega))) | fail
  refine OKs.mask (msk 56 [0, 1, 2, 3, 4, 5, 13, 14, 15]) ?_
  refine OKs.loopN (fun n st => ∃ (z : Int) (prevz : List Pl) (idz : List (Int × Int)) (cz : Int) (iz : List (EV × EV)), st = ⟨mkT 56 [(0, pe), (1, .isl n0 none lc), (2, .sb inD), (3, .ptr 8 0), (4, .ptr 6 0), (5, .ptr 9 0), (13, .isl n0 none lc), (14, .lit (.int .i64 (A.ofn n0))), (15, .lit (.int .i64 z))], H10 fn nn fc nc resOK cz iz LT LA LB 0 none⟩ ∧ n = (n0 - z).toNat ∧ 0 ≤ z ∧ z ≤ n0 ∧ cz = prevz.length ∧ iz = imE idz ∧ IdsOf idz prevz ∧ prevz.length ≤ 256 ∧ prevz = prev ++ nodesFs path [] inD (l.take z.toNat) ∧ allN prev (nodesFs path [] inD (l.take z.toNat))) (fun n st hs' ih => ?_)
    ⟨0, prev, idm, cnt, ie, rfl, rfl, by omega, by omega, hcnt, hie, hids, hprev, by simp [nodesFs], by simp [nodesFs, allN]⟩
  obtain ⟨z, prevz, idz, cz, iz, rfl, hnn, hz1, hz2, hcz, hiz, hidz, hprevz, hpz, hall⟩ := hs'
  have hmvi : ∀ g z, mvM g z iz = iz := fun g z => by rw [hiz]; exact mvM_im g z idz
  obtain ⟨f, hf⟩ : ∃ f, f = l.getD z.toNat fld0 := ⟨_, rfl⟩
  have hLf : z < n0 → List.take 7 (List.drop (A.idx 0 z 7) lc) = cellsF f := fun hz => by rw [hA, hlc, hf, ← fs_get l z.toNat (by omega), s_idx, Nat.zero_add]
  have hokf : z < n0 → okF f := fun hz => by rw [hf]; exact okFs_get hokl _ (by omega)
  obtain ⟨nm, nul, k, w, i, x, kids⟩ := f
  simp only [cellsF] at hLf
  obtain ⟨kn, hkn⟩ : ∃ n, n = kids.length := ⟨_, rfl⟩
  obtain ⟨kc, hkc⟩ : ∃ c, c = cellsFs kids := ⟨_, rfl⟩
  rw [← hkn, ← hkc] at hLf
  unfold H10
  obtain ⟨pn, hpn⟩ : ∃ n, n = path.length := ⟨_, rfl⟩
  have hways : (path = [] ∧ pe = .lit (.slice none 0 0)) ∨ (1 ≤ pn ∧ pe = .isl pn none pc) := by
    rw [hpe, wayE]
    by_cases h : path = []
    · exact .inl ⟨h, if_pos h⟩
    · exact .inr ⟨by rw [hpn]; cases path with | nil => exact absurd rfl h | cons a l => simp, by rw [if_neg h, hpn]⟩
  have hpem : ∀ g z, mvE g z pe = pe := fun g z => by rcases hways with ⟨_, h⟩ | ⟨_, h⟩ <;> rw [h] <;> rfl
  have hsplit : ∀ K, z < n0 → nodesF path (l.take z.toNat) inD (.mk nm nul k w i x kids) = K → ∃ R, nodesFs path [] inD l = nodesFs path [] inD (l.take z.toNat) ++ (K ++ R) := fun K hz hK => by
    refine ⟨nodesFs path (l.take z.toNat ++ [.mk nm nul k w i x kids]) inD (l.drop (z.toNat + 1)), ?_⟩
    conv => lhs; rw [← List.take_append_drop z.toNat l, nodesFs_app, List.drop_eq_getElem_cons (show z.toNat < l.length by omega)]
    rw [nodesFs, ← hK, hf, List.getD_eq_getElem?_getD, List.getElem?_eq_getElem (by omega)]
    simp
  have hpl1 : (path ++ [(l.take z.toNat).length]).length = pn + 1 := by simp [hpn]
  obtain ⟨p, hp⟩ : ∃ p : Pl, p = ⟨path ++ [(l.take z.toNat).length], l.take z.toNat, .mk nm nul k w i x kids, inD⟩ := ⟨_, rfl⟩
  have main : ∀ (wn : Nat) (wc : List EV), z < n0 → wn = pn + 1 → wc.length = wn → clL wc = true →
      OKs Tryz.prog gs none I0 ρ0 w0 Q [.c (fstC (nthC (blkC (fstC (nthC (lpC (blkC (sndC (fstC (nthC F112.body 1)))) ) 2))) 2)), .c (nthC (blkC (fstC (nthC (lpC (blkC (sndC (fstC (nthC F112.body 1))))) 2))) 3), .blk 1, .c (nthC (lpC (blkC (sndC (fstC (nthC F112.body 1))))) 3), .lp (lpC (blkC (sndC (fstC (nthC F112.body 1))))), .blk 0, .c (nthC F112.body 2)]
        ⟨mkT 56 [(0, pe), (1, .isl n0 none lc), (2, .sb inD), (3, .ptr 8 0), (4, .ptr 6 0), (5, .ptr 9 0), (10, .lit (.int .i64 z)), (11, .ptr 10 0), (12, .isl wn none wc), (13, .isl n0 none lc), (14, .lit (.int .i64 (A.ofn n0))), (15, .lit (.int .i64 z))],
          H10 fn nn fc nc resOK cz iz LT LA LB 0 none ++ [.blk [.lit (.string nm), .lit (.bool nul), .lit (.int .i64 k), .lit (.int .i64 w), .lit (.int .i64 i), .lit (.int .i64 x), .isl kn none kc]]⟩ := by
    intro wn wc hz hwn hwl hwcl
    unfold H10
    have htk : (l.take z.toNat).length = z.toNat := by rw [List.length_take]; omega
    have hkok := hokf hz
    have hnf : nodesF path (l.take z.toNat) inD (.mk nm nul k w i x kids) = p :: (if path.length < 64 then nodesFs (path ++ [(l.take z.toNat).length]) [] (inD || decide (k = 19)) kids else []) := by rw [nodesF, hp]
    obtain ⟨R, hR⟩ := hsplit _ hz hnf
    have hstep := nodesFs_step path inD l z.toNat (by omega)
    rw [← hf, hnf] at hstep
    obtain ⟨an, han⟩ : ∃ n, n = A.sub (A.tn z) (A.tn 0) := ⟨_, rfl⟩
    obtain ⟨ac, hac⟩ : ∃ n, n = A.drp (A.mul (A.tn 0) 7) lc := ⟨_, rfl⟩
    have hr := hround prevz idz p (l.drop z.toNat) wn an kn wc ac kc cz iz hidz hprevz (by rw [hp]; show (path ++ [(l.take z.toNat).length]).length ≤ 65; omega) hwcl (by rw [hp]; show (l.take z.toNat).length ≤ _; omega) (by rw [hp]; exact hkok)
      (by rw [hp]; show wn = (path ++ [(l.take z.toNat).length]).length; omega) (by rw [hp, han, hA]; show _ = (l.take z.toNat).length; simp only [s_subN, s_tn, Int.reduceToNat, htk]; omega)
      (by rw [hp, hac, hA, hlc]; simp only [s_drp, s_mulN, s_tn, Int.reduceToNat, Nat.zero_mul, List.drop_zero, List.take_append_drop]) (by rw [hp]; exact hkn) (by rw [hp]; exact hkc) hcz hiz
    rw [han, hac] at hr
    simp only [hp, nm_mk, nul_mk, kind_mk, width_mk, id_mk, idx_mk, kids_mk] at hr
    rw [← hp] at hr
    with_reducible refine runS hA hd hQ 1 ?hk ?_
    case hk => exact trivial
    conv => arg 9; cbv
    try simp only [OK]
    repeat' first | (with_reducible refine OKK.loop ?_) | (with_reducible refine OKK.again ?_) | ((with_reducible refine ⟨fun hbr => ?_, fun hbr => ?_⟩) <;> (try simp (disch := omega) only [hA, OK, emaU, Int.reduceToNat, s_bat, s_rep1, s_setl, List.length_replicate, reduceCtorEq] at hbr) <;> (try (with_reducible exfalso; omega))) | ((with_reducible refine runK hA hd hQ 1 ?hk ?_); (case hk => exact trivial); (conv => arg 9; cbv); (try simp only [OK])) | ((with_reducible refine need_of ?hn ?_); (case hn => ((simp (disch := omega) only [hA, OK, emaU, Int.reduceToNat, s_bat, s_rep1, s_setl, List.length_replicate]) <;> omega))) | fail
    refine .inr ⟨7, _, rfl, rfl, TriY.mono hr fun v hh hx => ?_⟩
    rcases hx with ⟨hok, hv, idm', hid', hh'⟩ | ⟨hno, hv, e, pf, pcf, cntf, idf, he, hh'⟩
    · have hz1' : (A.ib .add .i64 z 1).toNat = z.toNat + 1 := by simp (disch := omega) only [hA, OK, emaU, Int.reduceToNat, s_bat, s_rep1, s_setl, List.length_replicate]; omega
      obtain ⟨c1, hc1⟩ : ∃ c : Int, c = (prevz ++ [p]).length := ⟨_, rfl⟩
      obtain ⟨i1, hi1⟩ : ∃ c, c = imE idm' := ⟨_, rfl⟩
      rw [← hc1, ← hi1] at hh'
      subst hv; subst hh'
      with_reducible refine runK hA hd hQ 1 ?hk ?_
      case hk => exact trivial
      conv => arg 9; cbv
      try simp only [OK]
      repeat' first | (with_reducible refine OKK.loop ?_) | (with_reducible refine OKK.again ?_) | ((with_reducible refine ⟨fun hbr => ?_, fun hbr => ?_⟩) <;> (try simp (disch := omega) only [hA, OK, emaU, Int.reduceToNat, s_bat, s_rep1, s_setl, List.length_replicate, reduceCtorEq] at hbr) <;> (try (with_reducible exfalso; omega))) | ((with_reducible refine runK hA hd hQ 1 ?hk ?_); (case hk => exact trivial); (conv => arg 9; cbv); (try simp only [OK])) | ((with_reducible refine need_of ?hn ?_); (case hn => ((simp (disch := omega) only [hA, OK, emaU, Int.reduceToNat, s_bat, s_rep1, s_setl, List.length_replicate]) <;> omega))) | fail
      rotate_right
      · refine OKs.mask (msk 56 [0, 1, 2, 3, 4, 5, 13, 14, 15]) (OKs.mvE L10 [] (by rw [hρ]; rfl) ⟨by decide, by simp [sizeH], by simp⟩ (mvH10 hLT rfl (fun g z => by rw [hi1]; exact mvM_im g z _) [_]) ?_)
        show OKs Tryz.prog gs none I0 ρ0 w0 Q _ (St.mk (mvE _ _ pe :: _) _)
        rw [hpem]
        refine (ih _ _ ⟨A.ib .add .i64 z 1, prevz ++ [p], idm', c1, i1, rfl, rfl, ?_, ?_, hc1, hi1, hid', ?_, ?_, ?_⟩ ?_)
        · simp (disch := omega) only [hA, OK, emaU, Int.reduceToNat, s_bat, s_rep1, s_setl, List.length_replicate]; omega
        · simp (disch := omega) only [hA, OK, emaU, Int.reduceToNat, s_bat, s_rep1, s_setl, List.length_replicate]; omega
        · simp only [List.length_append, List.length_singleton]; omega
        · rw [hz1', hstep, if_neg (by omega), hpz, List.append_assoc]
        · rw [hz1', hstep, if_neg (by omega), allN_app]; exact ⟨hall, by rw [← hpz]; exact ⟨hok.1, hok.2, trivial⟩⟩
        · simp (disch := omega) only [hA, OK, emaU, Int.reduceToNat, s_bat, s_rep1, s_setl, List.length_replicate]; omega
      all_goals
        obtain ⟨K, hK⟩ : ∃ K, K = nodesFs (path ++ [(l.take z.toNat).length]) [] (inD || decide (k = 19)) kids := ⟨_, rfl⟩
        have t := ihl kids (path ++ [(l.take z.toNat).length]) (.isl wn none wc) wc (inD || decide (k = 19)) (prevz ++ [p]) idm' kn kc c1 i1 (by rw [hpl1]; omega) (by rw [hpl1]; omega) (by rw [wayE, if_neg (by simp), hpl1, hwn]) (by rw [hpl1]; omega) hwcl hkok.2.2.2.2.2.2 hkok.2.2.2.2.2.1 hid' (by simp only [List.length_append, List.length_singleton]; omega) hkn hkc hc1 hi1
        rw [← hK] at t
        have t2 := Tri.args (args := [.isl wn none wc, .isl kn none kc, _, .ptr 8 0, .ptr 6 0, .ptr 9 0]) t (UpL.cons (Up.refl _) (UpL.cons (Up.refl _) (UpL.cons (x := if inD then .lit (.bool true) else .sb (A.ic .eql k 19)) (by
          cases inD
          · rw [show (false || decide (k = 19)) = A.ic .eql k 19 by rw [hA, s_eql, Bool.false_or]]; exact Up.refl _
          · rw [show (true || decide (k = 19)) = true by rw [Bool.true_or]]; exact Up.sb _) (UpL.cons (Up.refl _) (UpL.cons (Up.refl _) (UpL.cons (Up.refl _) UpL.nil))))))
        rw [← mvH10 (fn := fn) (nn := nn) (fc := fc) (nc := nc) (res := resOK) (cnt := c1) (ie := i1) (LA := LA) (LB := LB) (st := 0) (pd := none) hLT rfl (fun g z => by rw [hi1]; exact mvM_im g z _) [.blk [.lit (.string nm), .lit (.bool nul), .lit (.int .i64 k), .lit (.int .i64 w), .lit (.int .i64 i), .lit (.int .i64 x), .isl kn none kc]], (by assumption : inD = _)] at t2
        refine CallOK.of (goodF_of F112_ok) (Tri.mono (Tri.sub L10 [] ⟨by decide, by simp [sizeH], by simp⟩ (by simp) t2 (.inl rfl)) fun v hh hx => ?_)
        obtain ⟨v0, h0, hw, hv, hh'⟩ := hx
        rcases hw with ⟨hok2, hv0, idm2, hid2, hh0⟩ | ⟨hno2, hv0, e, pf, pcf, cntf, idf, he, hh0⟩
        · obtain ⟨c2, hc2⟩ : ∃ c : Int, c = (prevz ++ [p] ++ K).length := ⟨_, rfl⟩
          obtain ⟨i2, hi2⟩ : ∃ c, c = imE idm2 := ⟨_, rfl⟩
          have hlen2 : (prevz ++ [p] ++ K).length ≤ 256 := by
            have h1 := hok.1
            rcases allN_len hok2 with h2 | h2
            · rw [h2]; simp only [List.length_append, List.length_singleton, List.length_nil]; omega
            · simp only [List.length_append, List.length_singleton] at h2 ⊢; omega
          rw [List.append_nil, ← hc2, ← hi2] at hh0
          subst hh0; subst hv0
          have hh2 := hh'.trans (subH10 hLT rfl (fun g z => by rw [hi2]; exact mvM_im g z _) _)
          clear hh'
          subst hv; subst hh2
          with_reducible refine runK hA hd hQ 1 ?hk ?_
          case hk => exact trivial
          conv => arg 9; cbv
          try simp only [OK]
          repeat' first | (with_reducible refine OKK.loop ?_) | (with_reducible refine OKK.again ?_) | ((with_reducible refine ⟨fun hbr => ?_, fun hbr => ?_⟩) <;> (try simp (disch := omega) only [hA, OK, emaU, Int.reduceToNat, s_bat, s_rep1, s_setl, List.length_replicate, reduceCtorEq] at hbr) <;> (try (with_reducible exfalso; omega))) | ((with_reducible refine runK hA hd hQ 1 ?hk ?_); (case hk => exact trivial); (conv => arg 9; cbv); (try simp only [OK])) | ((with_reducible refine need_of ?hn ?_); (case hn => ((simp (disch := omega) only [hA, OK, emaU, Int.reduceToNat, s_bat, s_rep1, s_setl, List.length_replicate]) <;> omega))) | fail
          refine OKs.mask (msk 56 [0, 1, 2, 3, 4, 5, 13, 14, 15]) (OKs.mvE L10 [] (by rw [hρ]; rfl) ⟨by decide, by simp [sizeH], by simp⟩ (mvH10 hLT rfl (fun g z => by rw [hi2]; exact mvM_im g z _) [_]) ?_)
          show OKs Tryz.prog gs none I0 ρ0 w0 Q _ (St.mk (mvE _ _ pe :: _) _)
          rw [hpem]
          refine (ih _ _ ⟨A.ib .add .i64 z 1, prevz ++ [p] ++ K, idm2, c2, i2, rfl, rfl, ?_, ?_, hc2, hi2, hid2, ?_, ?_, ?_⟩ ?_)
          · simp (disch := omega) only [hA, OK, emaU, Int.reduceToNat, s_bat, s_rep1, s_setl, List.length_replicate]; omega
          · simp (disch := omega) only [hA, OK, emaU, Int.reduceToNat, s_bat, s_rep1, s_setl, List.length_replicate]; omega
          · exact hlen2
          · rw [hz1', hstep, if_pos (by omega), ← hK, hpz, List.append_assoc, List.append_assoc, List.singleton_append]
          · rw [hz1', hstep, if_pos (by omega), ← hK, allN_app]; exact ⟨hall, by rw [← hpz]; exact ⟨hok.1, hok.2, hok2⟩⟩
          · simp (disch := omega) only [hA, OK, emaU, Int.reduceToNat, s_bat, s_rep1, s_setl, List.length_replicate]; omega
        · obtain ⟨i2, hi2⟩ : ∃ c, c = imE idf := ⟨_, rfl⟩
          rw [List.append_nil, ← hi2] at hh0
          subst hh0; subst hv0
          have hh2 := hh'.trans (subH10 hLT rfl (fun g z => by rw [hi2]; exact mvM_im g z _) _)
          clear hh'
          subst hv; subst hh2
          with_reducible refine runK hA hd hQ 1 ?hk ?_
          case hk => exact trivial
          conv => arg 9; cbv
          try simp only [OK]
          repeat' first | (with_reducible refine OKK.loop ?_) | (with_reducible refine OKK.again ?_) | ((with_reducible refine ⟨fun hbr => ?_, fun hbr => ?_⟩) <;> (try simp (disch := omega) only [hA, OK, emaU, Int.reduceToNat, s_bat, s_rep1, s_setl, List.length_replicate, reduceCtorEq] at hbr) <;> (try (with_reducible exfalso; omega))) | ((with_reducible refine runK hA hd hQ 1 ?hk ?_); (case hk => exact trivial); (conv => arg 9; cbv); (try simp only [OK])) | ((with_reducible refine need_of ?hn ?_); (case hn => ((simp (disch := omega) only [hA, OK, emaU, Int.reduceToNat, s_bat, s_rep1, s_setl, List.length_replicate]) <;> omega))) | fail
          refine FinR.intro rfl (.inr ⟨fun hall2 => ?_, rfl, e, pf, pcf, cntf, idf, _, he, by rw [← hi2]; rfl⟩)
          rw [hR, allN_app, ← hpz, if_pos (by omega), ← hK] at hall2
          exact hno2 ((allN_app K R (prevz ++ [p])).1 hall2.2.2.2).1
    · obtain ⟨i1, hi1⟩ : ∃ c, c = imE idf := ⟨_, rfl⟩
      rw [← hi1] at hh'
      subst hv; subst hh'
      with_reducible refine runK hA hd hQ 1 ?hk ?_
      case hk => exact trivial
      conv => arg 9; cbv
      try simp only [OK]
      repeat' first | (with_reducible refine OKK.loop ?_) | (with_reducible refine OKK.again ?_) | ((with_reducible refine ⟨fun hbr => ?_, fun hbr => ?_⟩) <;> (try simp (disch := omega) only [hA, OK, emaU, Int.reduceToNat, s_bat, s_rep1, s_setl, List.length_replicate, reduceCtorEq] at hbr) <;> (try (with_reducible exfalso; omega))) | ((with_reducible refine runK hA hd hQ 1 ?hk ?_); (case hk => exact trivial); (conv => arg 9; cbv); (try simp only [OK])) | ((with_reducible refine need_of ?hn ?_); (case hn => ((simp (disch := omega) only [hA, OK, emaU, Int.reduceToNat, s_bat, s_rep1, s_setl, List.length_replicate]) <;> omega))) | fail
      refine FinR.intro rfl (.inr ⟨fun hall2 => ?_, rfl, e, pf, pcf, cntf, idf, _, he, by rw [← hi1]; rfl⟩)
      rw [hR, allN_app, ← hpz] at hall2
      exact hno ⟨hall2.2.1, hall2.2.2.1⟩
  rcases hways with ⟨hp0, hpe1⟩ | ⟨hp0, hpe1⟩ <;> rw [hpe1]
  all_goals
    with_reducible refine runS hA hd hQ 1 ?hk ?_
    case hk => exact trivial
    conv => arg 9; cbv
    try simp only [OK]
    repeat' first | (with_reducible refine OKK.loop ?_) | (with_reducible refine OKK.again ?_) | (with_reducible refine OKK.stopS (some 25) ?_) | (with_reducible refine OKK.stopO (some 25) ?_) | ((with_reducible refine ⟨fun hbr => ?_, fun hbr => ?_⟩) <;> (try simp (disch := omega) only [hA, OK, emaU, Int.reduceToNat, s_bat, s_rep1, s_setl, List.length_replicate, reduceCtorEq] at hbr) <;> (try (with_reducible exfalso; omega))) | ((with_reducible refine runK hA hd hQ 1 ?hk ?_); (case hk => exact trivial); (conv => arg 9; cbv); (try simp only [OK])) | ((with_reducible refine need_of ?hn ?_); (case hn => ((simp (disch := omega) only [hA, OK, emaU, Int.reduceToNat, s_bat, s_rep1, s_setl, List.length_replicate]) <;> omega))) | ((refine ⟨_, _, ?l1, (hLf (by omega)), rfl, ?_⟩); (case l1 => exact rfl)) | fail
  · refine CallOK.of (goodF_of F113_ok) (Tri.mono (cloneNil_ok _) fun v hh hx => ?_)
    obtain ⟨e1, e2⟩ := hx
    subst e1; subst e2
    with_reducible refine runK hA hd hQ 1 ?hk ?_
    case hk => exact trivial
    conv => arg 9; cbv
    try simp only [OK]
    repeat' first | (with_reducible refine OKK.loop ?_) | (with_reducible refine OKK.again ?_) | (with_reducible refine OKK.stopS (some 25) ?_) | (with_reducible refine OKK.stopO (some 25) ?_) | ((with_reducible refine ⟨fun hbr => ?_, fun hbr => ?_⟩) <;> (try simp (disch := omega) only [hA, OK, emaU, Int.reduceToNat, s_bat, s_rep1, s_setl, List.length_replicate, reduceCtorEq] at hbr) <;> (try (with_reducible exfalso; omega))) | ((with_reducible refine runK hA hd hQ 1 ?hk ?_); (case hk => exact trivial); (conv => arg 9; cbv); (try simp only [OK])) | ((with_reducible refine need_of ?hn ?_); (case hn => ((simp (disch := omega) only [hA, OK, emaU, Int.reduceToNat, s_bat, s_rep1, s_setl, List.length_replicate]) <;> omega))) | fail
    refine OKs.mask (msk 56 [0, 1, 2, 3, 4, 5, 10, 11, 12, 13, 14, 15]) ?_
    obtain ⟨wc, hwc⟩ : ∃ c, c = A.tak (A.mul 1 1) (A.drp 0 [.lit (.int .i64 z)]) := ⟨_, rfl⟩
    have hwc1 : wc = [.lit (.int .i64 z)] := by rw [hwc, hA]; rfl
    refine OKs.mvE L11 [12] (by rw [hρ]; rfl) ⟨by decide, by simp [sizeH], fun id hid => by simp at hid; subst hid; exact ⟨_, rfl, by rw [hA]; rfl⟩⟩ (mvH11 [12] (by simp) hLT rfl hmvi _ rfl _) ?_
    refine OKs.up 12 (.isl 1 none wc) (by rw [hwc]; exact Up.refl _) ?_
    have hm := main 1 wc (by assumption) (by rw [hpn, hp0]; rfl) (by rw [hwc1]; rfl) (by rw [hwc1]; rfl)
    rw [hpe1] at hm
    exact hm
  rotate_left
  · refine CallOK.of (goodF_of F113_ok) (Tri.mono (clone_ok pn pc _ hp0 (by omega) (by omega) hpcl) fun v hh hx => ?_)
    obtain ⟨e1, e2⟩ := hx
    subst e1; subst e2
    have hpcn : pc.length = pn := by omega
    with_reducible refine runK hA hd hQ 1 ?hk ?_
    case hk => exact trivial
    conv => arg 9; cbv
    try simp only [OK]
    repeat' first | (with_reducible refine OKK.loop ?_) | (with_reducible refine OKK.again ?_) | (with_reducible refine OKK.stopS (some 25) ?_) | (with_reducible refine OKK.stopO (some 25) ?_) | ((with_reducible refine ⟨fun hbr => ?_, fun hbr => ?_⟩) <;> (try simp (disch := omega) only [hA, OK, emaU, Int.reduceToNat, s_bat, s_rep1, s_setl, List.length_replicate, reduceCtorEq] at hbr) <;> (try (with_reducible exfalso; omega))) | ((with_reducible refine runK hA hd hQ 1 ?hk ?_); (case hk => exact trivial); (conv => arg 9; cbv); (try simp only [OK])) | ((with_reducible refine need_of ?hn ?_); (case hn => ((simp (disch := omega) only [hA, OK, emaU, Int.reduceToNat, s_bat, s_rep1, s_setl, List.length_replicate]) <;> omega))) | fail
    refine OKs.mask (msk 56 [0, 1, 2, 3, 4, 5, 10, 11, 12, 13, 14, 15]) ?_
    obtain ⟨wc, hwc⟩ : ∃ c, c = A.app (A.tak (A.mul pn 1) (A.drp 0 pc)) (A.tak (A.mul 1 1) (A.drp 0 [.lit (.int .i64 z)])) := ⟨_, rfl⟩
    have hwc1 : wc = pc ++ [.lit (.int .i64 z)] := by rw [hwc, hA]; simp [s_app, s_tak, s_drp, s_mulN, ← hpcn]
    have hwc2 : clL wc = true := by
      rw [hwc1]
      refine clL_of fun x hx => ?_
      rcases List.mem_append.1 hx with hx | hx
      · exact clL_mem hpcl x hx
      · rw [List.mem_singleton.1 hx]; rfl
    obtain ⟨wn, hwn⟩ : ∃ c, c = A.add pn 1 := ⟨_, rfl⟩
    have hwn1 : wn = pn + 1 := by rw [hwn, hA]; rfl
    refine OKs.mvE L11 [13] (by rw [hρ]; rfl) ⟨by decide, by simp [sizeH], fun id hid => by simp at hid; subst hid; exact ⟨_, rfl, by rw [hwc] at hwc2; exact hwc2⟩⟩ (mvH11 [13] (by simp) hLT rfl hmvi _ rfl _) ?_
    refine OKs.up 12 (.isl wn none wc) (by rw [hwc, hwn]; exact Up.refl _) ?_
    have hm := main wn wc (by assumption) hwn1 (by rw [hwc1, hwn1]; simp [hpcn]) hwc2
    rw [hpe1] at hm
    exact hm
  all_goals
    have hall' : nodesFs path [] inD (l.take z.toNat) = nodesFs path [] inD l := by rw [List.take_of_length_le (by omega)]
    rw [hall'] at hall hpz
    refine FinR.intro rfl (.inl ⟨hall, rfl, idz, [], by rw [← hpz]; exact hidz, ?_⟩)
    rw [← hpz, ← hcz, ← hiz]
    rfl
end
end Go.Proofs.YtmckingimnhoaaaGreatDoor.Stats
