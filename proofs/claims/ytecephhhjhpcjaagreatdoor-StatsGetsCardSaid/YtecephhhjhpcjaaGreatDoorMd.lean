/- YtecephhhjhpcjaaGreatDoorMd: the texts St12, St13, St14, Ss1, St15, St16, brought together. No conditions. -/
import Derived.Test.YtecephhhjhpcjaaGreatDoorMc
import Derived.Test.YtecephhhjhpcjaaGreatDoorX39
import Derived.Test.YtecephhhjhpcjaaGreatDoorX40
import Derived.Shelf.Small.Strs
section
set_option linter.unusedVariables false
set_option linter.unusedSimpArgs false
-- emaX: s_bat, s_rep1, s_setl, List.length_replicate
namespace Go.Proofs.YtecephhhjhpcjaaGreatDoor.Stats
open Go Go.Proofs.YtecephhhjhpcjaaGreatDoor Go.Proofs.YtecephhhjhpcjaaGreatDoor.Em
theorem cloneNil_ok (h : EH) : Tri Tryz.prog gs 82 [.lit (.slice none 0 0)] h fun v h' => v = .lit (.slice none 0 0) ∧ h' = h := by
  refine Tri.litC (φ := fun v => v = .lit (.slice none 0 0)) (fun v hv => by rw [hv]; rfl) rfl (Tri_of F82_ok fun I0 ρ0 w0 Q hρ hQ => ?_) h
  obtain ⟨A, hA⟩ : ∃ A, A = stdA := ⟨_, rfl⟩
  with_reducible refine runS hA hd hQ 200 ?hk ?_
  case hk => exact trivial
  conv => arg 9; cbv
  try simp only [OK]
  repeat' first | ((with_reducible refine ⟨fun hbr => ?_, fun hbr => ?_⟩) <;> (try simp (disch := omega) only [hA, OK, emaU, Int.reduceToNat, s_bat, s_rep1, s_setl, List.length_replicate, reduceCtorEq] at hbr) <;> (try (with_reducible exfalso; omega))) | ((with_reducible refine runK hA hd hQ 200 ?hk ?_); (case hk => exact trivial); (conv => arg 9; cbv); (try simp only [OK])) | ((with_reducible refine need_of ?hn ?_); (case hn => ((simp (disch := omega) only [hA, OK, emaU, Int.reduceToNat, s_bat, s_rep1, s_setl, List.length_replicate]) <;> omega)))
  exact FinR.intro rfl rfl
set_option maxHeartbeats 2000000 in
theorem clone_ok (n : Nat) (c : List EV) (h : EH) (hn : 1 ≤ n) (hn2 : n ≤ 65) (hc : c.length = n) (hcl : clL c = true) :
    Tri Tryz.prog gs 82 [.isl n none c] h fun v h' => v = .sl 1 (sizeH h) 0 n none ∧ h' = pushH h (.blk c) := by
  have t : Tri Tryz.prog gs 82 [.isl n none c] [] fun v h' => v = .sl 1 0 0 n none ∧ h' = [.blk c] := by
    refine Tri.mv (R := fun v h' => v = .sl 1 1 0 n none ∧ ∃ o t, h' = o :: .blk c :: t) (Tri_of F82_ok fun I0 ρ0 w0 Q hρ hQ => ?_) fun v h' ⟨hv, o, t, ht⟩ => ?_
    · obtain ⟨A, hA⟩ : ∃ A, A = stdA := ⟨_, rfl⟩
      with_reducible refine runS hA hd hQ 200 ?hk ?_
      case hk => exact trivial
      conv => arg 9; cbv
      try simp only [OK]
      repeat' first | ((with_reducible refine ⟨fun hbr => ?_, fun hbr => ?_⟩) <;> (try simp (disch := omega) only [hA, OK, emaU, Int.reduceToNat, s_bat, s_rep1, s_setl, List.length_replicate, reduceCtorEq] at hbr) <;> (try (with_reducible exfalso; omega))) | ((with_reducible refine runK hA hd hQ 200 ?hk ?_); (case hk => exact trivial); (conv => arg 9; cbv); (try simp only [OK])) | ((with_reducible refine need_of ?hn ?_); (case hn => ((simp (disch := omega) only [hA, OK, emaU, Int.reduceToNat, s_bat, s_rep1, s_setl, List.length_replicate]) <;> omega)))
      have e : A.app (A.tak (A.mul 0 1) (A.drp 0 [])) (A.tak (A.mul n 1) c) = c := by rw [hA]; simp [s_app, s_tak, s_drp, s_mulN, ← hc]
      exact FinR.intro rfl ⟨by rw [hA]; simp only [s_addN, Nat.zero_add]; rfl, _, _, congrArg (fun x => [EO.blk [], EO.blk x]) e⟩
    · subst hv; subst ht
      refine ⟨[1], [], rfl, ⟨by simp, by simp [sizeH], by simp⟩, rfl, ?_⟩
      simp [mvH, getH, mvO, inL, mvL_cl _ _ _ hcl]
  refine (Tri.frame (h := h) (R := fun v h' => v = .sl 1 0 0 n none ∧ h' = [.blk c]) [] (by simp) t (.inl rfl)).mono fun v h' ⟨v0, h0, ⟨e1, e2⟩, e3, e4⟩ => ?_
  subst e1; subst e2; subst e3; subst e4
  exact ⟨rfl, by simp only [appH, mvO, mvL_cl _ _ _ hcl]⟩
def H10 (fn nn : Nat) (fc nc res : List EV) (cnt : Int) (ie : List (EV × EV)) (LT : List EV) (LA LB : EC) (st : Nat) (pd : PD) : EH :=
  [.blk [.isl fn none fc, .isl nn none nc], .blk res, .blk [.lit (.int .i64 cnt)], .emap ie, .blk [.mp 3], .blk [.isl fn none fc], .blk [.lit (.int .i64 65)], .lp LT [46] LA LB st pd, .blk [.yl 7], .blk [.fn (.func 81) [] [.ptr 8 0, .ptr 6 0, .ptr 9 0]]]
def LowT (LT : List EV) : Prop := ∀ g z, (∀ i, i < 10 → g i = some i) → mvL g z LT = LT
def resOK : List EV := [.lit (.int .i64 0), .lit (.slice none 0 0), .lit (.int .i64 0)]
def resNo (e : Int) (pn : Nat) (pc : List EV) : List EV := [.lit (.int .i64 e), .isl pn none pc, .lit (.int .i64 0)]
def WalkR (fn nn : Nat) (fc nc : List EV) (LT : List EV) (LA LB : EC) (ok : Prop) (all : List Pl) (tail : EH) (v : EV) (h : EH) : Prop :=
  (ok ∧ v = .sb true ∧ ∃ idm, IdsOf idm all ∧ h = H10 fn nn fc nc resOK all.length (imE idm) LT LA LB 0 none ++ tail) ∨
  (¬ ok ∧ v = .sb false ∧ ∃ e pn pc cnt idm, e ≠ 0 ∧ h = H10 fn nn fc nc (resNo e pn pc) cnt (imE idm) LT LA LB 2 (some none) ++ tail)
def RoundOK (fn nn : Nat) (fc nc : List EV) (LT : List EV) (LA LB : EC) : Prop :=
  ∀ (prev : List Pl) (idm : List (Int × Int)) (p : Pl) (rest : List Fld) (wn an kn : Nat) (wc ac kc : List EV) (cnt : Int) (ie : List (EV × EV)), IdsOf idm prev → prev.length ≤ 256 → p.path.length ≤ 65 → clL wc = true → p.ahead.length ≤ 140737488351232 → okF p.f →
    wn = p.path.length → an = p.ahead.length → ac = cellsFs (p.ahead ++ rest) → kn = p.f.kids.length → kc = cellsFs p.f.kids → cnt = prev.length → ie = imE idm →
    TriY Tryz.prog gs 7 [.agg [.isl wn none wc, .isl an none ac, .lit (.string p.f.nm), .lit (.bool p.f.nul), .lit (.int .i64 p.f.kind), .lit (.int .i64 p.f.width), .lit (.int .i64 p.f.id), .lit (.int .i64 p.f.idx), .isl kn none kc, .sb p.inD]]
      (H10 fn nn fc nc resOK cnt ie LT LA LB 0 none ++ [.blk [.lit (.string p.f.nm), .lit (.bool p.f.nul), .lit (.int .i64 p.f.kind), .lit (.int .i64 p.f.width), .lit (.int .i64 p.f.id), .lit (.int .i64 p.f.idx), .isl kn none kc]])
      (WalkR fn nn fc nc LT LA LB (prev.length < 256 ∧ okN prev p) (prev ++ [p]) [.blk [.lit (.string p.f.nm), .lit (.bool p.f.nul), .lit (.int .i64 p.f.kind), .lit (.int .i64 p.f.width), .lit (.int .i64 p.f.id), .lit (.int .i64 p.f.idx), .isl kn none kc]])
section
variable {fn nn : Nat} {fc nc res : List EV} {cnt : Int} {ie : List (EV × EV)} {LT : List EV} {LA LB : EC} {st : Nat} {pd : PD}
abbrev L10 : List Nat := [0, 1, 2, 3, 4, 5, 6, 7, 8, 9]
abbrev L11 : List Nat := [0, 1, 2, 3, 4, 5, 6, 7, 8, 9, 10]
theorem mvH10 (hLT : LowT LT) (hres : clL res = true) (hie : ∀ g z, mvM g z ie = ie) (t : EH) :
    mvH L10 [] (H10 fn nn fc nc res cnt ie LT LA LB st pd ++ t) L10 = H10 fn nn fc nc res cnt ie LT LA LB st pd := by
  show ([.blk [.isl fn none fc, .isl nn none nc], .blk (mvL _ _ res), .blk [.lit (.int .i64 cnt)], .emap (mvM _ _ ie), .blk [.mp 3], .blk [.isl fn none fc], .blk [.lit (.int .i64 65)], .lp (mvL (mvG L10 []) (mvZ [] _) LT) [46] LA LB st pd, .blk [.yl 7], .blk [.fn (.func 81) [] [.ptr 8 0, .ptr 6 0, .ptr 9 0]]] : EH) = _
  rw [hie, hLT _ _ (by decide), mvL_cl _ _ _ hres]
  rfl
theorem mvH11 (fr : List Nat) (hfr : fr = [12] ∨ fr = [13]) (hLT : LowT LT) (hres : clL res = true) (hie : ∀ g z, mvM g z ie = ie) (fb : List EV) (hfb : clL fb = true) (t : EH) :
    mvH L11 fr (H10 fn nn fc nc res cnt ie LT LA LB st pd ++ (.blk fb :: t)) L11 = H10 fn nn fc nc res cnt ie LT LA LB st pd ++ [.blk fb] := by
  rcases hfr with rfl | rfl
  · show ([.blk [.isl fn none fc, .isl nn none nc], .blk (mvL _ _ res), .blk [.lit (.int .i64 cnt)], .emap (mvM _ _ ie), .blk [.mp 3], .blk [.isl fn none fc], .blk [.lit (.int .i64 65)], .lp (mvL (mvG L11 [12]) (mvZ [12] _) LT) [46] LA LB st pd, .blk [.yl 7], .blk [.fn (.func 81) [] [.ptr 8 0, .ptr 6 0, .ptr 9 0]], .blk (mvL _ _ fb)] : EH) = _
    rw [hie, hLT _ _ (by decide), mvL_cl _ _ _ hres, mvL_cl _ _ _ hfb]
    rfl
  · show ([.blk [.isl fn none fc, .isl nn none nc], .blk (mvL _ _ res), .blk [.lit (.int .i64 cnt)], .emap (mvM _ _ ie), .blk [.mp 3], .blk [.isl fn none fc], .blk [.lit (.int .i64 65)], .lp (mvL (mvG L11 [13]) (mvZ [13] _) LT) [46] LA LB st pd, .blk [.yl 7], .blk [.fn (.func 81) [] [.ptr 8 0, .ptr 6 0, .ptr 9 0]], .blk (mvL _ _ fb)] : EH) = _
    rw [hie, hLT _ _ (by decide), mvL_cl _ _ _ hres, mvL_cl _ _ _ hfb]
    rfl
theorem subH10 {res0 : List EV} {cnt0 : Int} {ie0 : List (EV × EV)} {st0 : Nat} {pd0 : PD} (hLT : LowT LT) (hres : clL res = true) (hie : ∀ g z, mvM g z ie = ie) (fb : EO) :
    subH L10 (H10 fn nn fc nc res0 cnt0 ie0 LT LA LB st0 pd0 ++ [fb]) (H10 fn nn fc nc res cnt ie LT LA LB st pd) = H10 fn nn fc nc res cnt ie LT LA LB st pd ++ [fb] := by
  show ([.blk [.isl fn none fc, .isl nn none nc], .blk (mvL _ _ res), .blk [.lit (.int .i64 cnt)], .emap (mvM _ _ ie), .blk [.mp 3], .blk [.isl fn none fc], .blk [.lit (.int .i64 65)], .lp (mvL (bkG L10 11) (fun _ => none) LT) [46] LA LB st pd, .blk [.yl 7], .blk [.fn (.func 81) [] [.ptr 8 0, .ptr 6 0, .ptr 9 0]], fb] : EH) = _
  rw [hie, hLT _ _ (by decide), mvL_cl _ _ _ hres]
  rfl
end
section
variable {P : Program} {G : List (List EV)} {ro : Option Nat} {I0 : Imm} {ρ0 : Ren} {w0 : World} {Q : Exit → Act → World → Prop}
theorem OKs.mvE {k : List KI} {s : St} (σ fr : List Nat) {hn : EH} (hσ : σ.take ρ0.length = List.range ρ0.length) (ok : okMv σ fr s.h) (e : mvH σ fr s.h σ = hn) (h : OKs P G ro I0 ρ0 w0 Q k ⟨mvL (mvG σ fr) (mvZ fr s.h) s.t, hn⟩) : OKs P G ro I0 ρ0 w0 Q k s :=
  OKs.mv σ fr hσ ok (by show OKs P G ro I0 ρ0 w0 Q k ⟨_, mvH σ fr s.h σ⟩; rw [e]; exact h)
end
def sndC : EC → EC
  | .seq _ b => b
  | _ => .skip
def blkC : EC → EC
  | .block _ c => c
  | _ => .skip
def lpC : EC → EC
  | .loop c => c
  | _ => .skip
theorem allN_len : ∀ {l prev : List Pl}, allN prev l → l = [] ∨ prev.length + l.length ≤ 256
  | [], _, _ => .inl rfl
  | p :: l, prev, h => .inr (by
    have := allN_len h.2.2
    rcases this with h1 | h1
    · have := h.1; rw [h1]; simp; omega
    · simp at h1 ⊢; omega)
def WalkR0 (fn nn : Nat) (fc nc : List EV) (LT : List EV) (LA LB : EC) (ok : Prop) (all : List Pl) (v : EV) (h : EH) : Prop :=
  (ok ∧ v = .lit (.bool true) ∧ ∃ idm t, IdsOf idm all ∧ h = H10 fn nn fc nc resOK all.length (imE idm) LT LA LB 0 none ++ t) ∨
  (¬ ok ∧ v = .lit (.bool false) ∧ ∃ e pn pc cnt idm t, e ≠ 0 ∧ h = H10 fn nn fc nc (resNo e pn pc) cnt (imE idm) LT LA LB 2 (some none) ++ t)
theorem WalkR0.done {fn nn : Nat} {fc nc : List EV} {LT : List EV} {LA LB : EC} {ok : Prop} {all : List Pl} {P : Program} {G : List (List EV)} {f : FuncId} {args : List EV} {h : EH} (hLT : LowT LT) (hs : sizeH h = 10) (t : Tri P G f args h (WalkR0 fn nn fc nc LT LA LB ok all)) :
    Tri P G f args h (WalkR fn nn fc nc LT LA LB ok all []) := by
  refine Tri.up (Tri.mv (R' := fun v h' => ∃ b, v = .lit (.bool b) ∧ WalkR fn nn fc nc LT LA LB ok all [] (.sb b) h') t fun v h' hr => ?_) fun v h' ⟨b, h1, h2⟩ => ⟨_, h2, by rw [h1]; exact Up.sb _⟩
  refine ⟨L10, [], by rw [hs]; rfl, ?_⟩
  rcases hr with ⟨h1, h2, idm, t, h3, h4⟩ | ⟨h1, h2, e, pn, pc, cnt, idm, t, h3, h4⟩ <;> subst h2 <;> subst h4
  · refine ⟨⟨by decide, fun id hid => ?_, fun id hid => by cases hid⟩, true, rfl, .inl ⟨h1, rfl, idm, h3, ?_⟩⟩
    · have : id < 10 := by revert hid; revert id; decide
      show id < _
      simp only [H10, List.cons_append, sizeH]; omega
    · rw [mvH10 hLT rfl (fun g z => mvM_im g z idm), List.append_nil]
  · refine ⟨⟨by decide, fun id hid => ?_, fun id hid => by cases hid⟩, false, rfl, .inr ⟨h1, rfl, e, pn, pc, cnt, idm, h3, ?_⟩⟩
    · have : id < 10 := by revert hid; revert id; decide
      show id < _
      simp only [H10, List.cons_append, sizeH]; omega
    · rw [mvH10 hLT rfl (fun g z => mvM_im g z idm), List.append_nil]
def wayE (path : List Nat) (pc : List EV) : EV := if path = [] then .lit (.slice none 0 0) else .isl path.length none pc
set_option maxRecDepth 100000 in
set_option maxHeartbeats 8000000 in
theorem down_ok (fn nn : Nat) (fc nc : List EV) (LT : List EV) (LA LB : EC) (hLT : LowT LT) (hround : RoundOK fn nn fc nc LT LA LB) :
    ∀ (lev : Nat) (l : List Fld) (path : List Nat) (pe : EV) (pc : List EV) (inD : Bool) (prev : List Pl) (idm : List (Int × Int)) (n0 : Nat) (lc : List EV) (cnt : Int) (ie : List (EV × EV)),
    65 ≤ path.length + lev → path.length ≤ 64 → pe = wayE path pc → pc.length = path.length → clL pc = true → okFs l → l.length ≤ 140737488351232 → IdsOf idm prev → prev.length ≤ 256 → n0 = l.length → lc = cellsFs l → cnt = prev.length → ie = imE idm →
    Tri Tryz.prog gs 81 [pe, .isl n0 none lc, .sb inD, .ptr 8 0, .ptr 6 0, .ptr 9 0] (H10 fn nn fc nc resOK cnt ie LT LA LB 0 none)
      (WalkR fn nn fc nc LT LA LB (allN prev (nodesFs path [] inD l)) (prev ++ nodesFs path [] inD l) []) := by
  intro lev
  induction lev with
  | zero => intro l path pe pc inD prev idm n0 lc cnt ie h1 h2; omega
  | succ lev ihl =>
  intro l path pe pc inD prev idm n0 lc cnt ie hlev hp64 hpe hpc hpcl hokl hll hids hprev hn0 hlc hcnt hie
  refine WalkR0.done hLT rfl (Tri_of F81_ok fun I0 ρ0 w0 Q hρ hQ => ?_)
  obtain ⟨A, hA⟩ : ∃ A, A = stdA := ⟨_, rfl⟩
  unfold H10
  with_reducible refine runS hA hd hQ 200 ?hk ?_
  case hk => exact trivial
  conv => arg 9; cbv
  try simp only [OK]
  repeat' first | (with_reducible refine OKK.loop ?_) | (with_reducible refine OKK.again ?_) | ((with_reducible refine ⟨fun hbr => ?_, fun hbr => ?_⟩) <;> (try simp (disch := omega) only [hA, OK, emaU, Int.reduceToNat, s_bat, s_rep1, s_setl, List.length_replicate, reduceCtorEq] at hbr) <;> (try (with_reducible exfalso; omega))) | ((with_reducible refine runK hA hd hQ 200 ?hk ?_); (case hk => exact trivial); (conv => arg 9; cbv); (try simp only [OK])) | ((with_reducible refine need_of ?hn ?_); (case hn => ((simp (disch := omega) only [hA, OK, emaU, Int.reduceToNat, s_bat, s_rep1, s_setl, List.length_replicate]) <;> omega)))
  refine OKs.mask (msk 56 [0, 1, 2, 3, 4, 5, 13, 14, 15]) ?_
  refine OKs.loopN (fun n st => ∃ (z : Int) (prevz : List Pl) (idz : List (Int × Int)) (cz : Int) (iz : List (EV × EV)), st = ⟨mkT 56 [(0, pe), (1, .isl n0 none lc), (2, .sb inD), (3, .ptr 8 0), (4, .ptr 6 0), (5, .ptr 9 0), (13, .isl n0 none lc), (14, .lit (.int .i64 (A.ofn n0))), (15, .lit (.int .i64 z))], H10 fn nn fc nc resOK cz iz LT LA LB 0 none⟩ ∧ n = (n0 - z).toNat ∧ 0 ≤ z ∧ z ≤ n0 ∧ cz = prevz.length ∧ iz = imE idz ∧ IdsOf idz prevz ∧ prevz.length ≤ 256 ∧ prevz = prev ++ nodesFs path [] inD (l.take z.toNat) ∧ allN prev (nodesFs path [] inD (l.take z.toNat))) (fun n st hs' ih => ?_)
    ⟨0, prev, idm, cnt, ie, rfl, rfl, by omega, by omega, hcnt, hie, hids, hprev, by simp [nodesFs], by simp [nodesFs, allN]⟩
  obtain ⟨z, prevz, idz, cz, iz, rfl, hnn, hz1, hz2, hcz, hiz, hidz, hprevz, hpz, hall⟩ := hs'
  have hmvi : ∀ g z, mvM g z iz = iz := fun g z => by rw [hiz]; exact mvM_im g z idz
  obtain ⟨f, hf⟩ : ∃ f, f = l.getD z.toNat fld0 := ⟨_, rfl⟩
  have hLf : z < n0 → List.take 7 (List.drop (A.idx 0 z 7) lc) = cellsF f := fun hz => by rw [hA, hlc, hf, ← fs_get l z.toNat (by omega), s_idx, Nat.zero_add]
  have hokf : z < n0 → okF f := fun hz => by rw [hf]; exact okFs_get hokl _ (by omega)
  obtain ⟨nm, nul, k, w, i, x, kids⟩ := f
  simp only [cellsF] at hLf
  obtain ⟨kn, hkn⟩ : ∃ n, n = kids.length := ⟨_, rfl⟩
  obtain ⟨kc, hkc⟩ : ∃ c, c = cellsFs kids := ⟨_, rfl⟩
  rw [← hkn, ← hkc] at hLf
  unfold H10
  obtain ⟨pn, hpn⟩ : ∃ n, n = path.length := ⟨_, rfl⟩
  have hways : (path = [] ∧ pe = .lit (.slice none 0 0)) ∨ (1 ≤ pn ∧ pe = .isl pn none pc) := by
    rw [hpe, wayE]
    by_cases h : path = []
    · exact .inl ⟨h, if_pos h⟩
    · exact .inr ⟨by rw [hpn]; cases path with | nil => exact absurd rfl h | cons a l => simp, by rw [if_neg h, hpn]⟩
  have hpem : ∀ g z, mvE g z pe = pe := fun g z => by rcases hways with ⟨_, h⟩ | ⟨_, h⟩ <;> rw [h] <;> rfl
  have hsplit : ∀ K, z < n0 → nodesF path (l.take z.toNat) inD (.mk nm nul k w i x kids) = K → ∃ R, nodesFs path [] inD l = nodesFs path [] inD (l.take z.toNat) ++ (K ++ R) := fun K hz hK => by
    refine ⟨nodesFs path (l.take z.toNat ++ [.mk nm nul k w i x kids]) inD (l.drop (z.toNat + 1)), ?_⟩
    conv => lhs; rw [← List.take_append_drop z.toNat l, nodesFs_app, List.drop_eq_getElem_cons (show z.toNat < l.length by omega)]
    rw [nodesFs, ← hK, hf, List.getD_eq_getElem?_getD, List.getElem?_eq_getElem (by omega)]
    simp
  have hpl1 : (path ++ [(l.take z.toNat).length]).length = pn + 1 := by simp [hpn]
  obtain ⟨p, hp⟩ : ∃ p : Pl, p = ⟨path ++ [(l.take z.toNat).length], l.take z.toNat, .mk nm nul k w i x kids, inD⟩ := ⟨_, rfl⟩
  have main : ∀ (wn : Nat) (wc : List EV), z < n0 → wn = pn + 1 → wc.length = wn → clL wc = true →
      OKs Tryz.prog gs none I0 ρ0 w0 Q [.c (fstC (nthC (blkC (fstC (nthC (lpC (blkC (sndC (fstC (nthC F81.body 1)))) ) 2))) 2)), .c (nthC (blkC (fstC (nthC (lpC (blkC (sndC (fstC (nthC F81.body 1))))) 2))) 3), .blk 1, .c (nthC (lpC (blkC (sndC (fstC (nthC F81.body 1))))) 3), .lp (lpC (blkC (sndC (fstC (nthC F81.body 1))))), .blk 0, .c (nthC F81.body 2)]
        ⟨mkT 56 [(0, pe), (1, .isl n0 none lc), (2, .sb inD), (3, .ptr 8 0), (4, .ptr 6 0), (5, .ptr 9 0), (10, .lit (.int .i64 z)), (11, .ptr 10 0), (12, .isl wn none wc), (13, .isl n0 none lc), (14, .lit (.int .i64 (A.ofn n0))), (15, .lit (.int .i64 z))],
          H10 fn nn fc nc resOK cz iz LT LA LB 0 none ++ [.blk [.lit (.string nm), .lit (.bool nul), .lit (.int .i64 k), .lit (.int .i64 w), .lit (.int .i64 i), .lit (.int .i64 x), .isl kn none kc]]⟩ := by
    intro wn wc hz hwn hwl hwcl
    unfold H10
    have htk : (l.take z.toNat).length = z.toNat := by rw [List.length_take]; omega
    have hkok := hokf hz
    have hnf : nodesF path (l.take z.toNat) inD (.mk nm nul k w i x kids) = p :: (if path.length < 64 then nodesFs (path ++ [(l.take z.toNat).length]) [] (inD || decide (k = 19)) kids else []) := by rw [nodesF, hp]
    obtain ⟨R, hR⟩ := hsplit _ hz hnf
    have hstep := nodesFs_step path inD l z.toNat (by omega)
    rw [← hf, hnf] at hstep
    obtain ⟨an, han⟩ : ∃ n, n = A.sub (A.tn z) (A.tn 0) := ⟨_, rfl⟩
    obtain ⟨ac, hac⟩ : ∃ n, n = A.drp (A.mul (A.tn 0) 7) lc := ⟨_, rfl⟩
    have hr := hround prevz idz p (l.drop z.toNat) wn an kn wc ac kc cz iz hidz hprevz (by rw [hp]; show (path ++ [(l.take z.toNat).length]).length ≤ 65; omega) hwcl (by rw [hp]; show (l.take z.toNat).length ≤ _; omega) (by rw [hp]; exact hkok)
      (by rw [hp]; show wn = (path ++ [(l.take z.toNat).length]).length; omega) (by rw [hp, han, hA]; show _ = (l.take z.toNat).length; simp only [s_subN, s_tn, Int.reduceToNat, htk]; omega)
      (by rw [hp, hac, hA, hlc]; simp only [s_drp, s_mulN, s_tn, Int.reduceToNat, Nat.zero_mul, List.drop_zero, List.take_append_drop]) (by rw [hp]; exact hkn) (by rw [hp]; exact hkc) hcz hiz
    rw [han, hac] at hr
    simp only [hp, nm_mk, nul_mk, kind_mk, width_mk, id_mk, idx_mk, kids_mk] at hr
    rw [← hp] at hr
    with_reducible refine runS hA hd hQ 1 ?hk ?_
    case hk => exact trivial
    conv => arg 9; cbv
    try simp only [OK]
    repeat' first | (with_reducible refine OKK.loop ?_) | (with_reducible refine OKK.again ?_) | ((with_reducible refine ⟨fun hbr => ?_, fun hbr => ?_⟩) <;> (try simp (disch := omega) only [hA, OK, emaU, Int.reduceToNat, s_bat, s_rep1, s_setl, List.length_replicate, reduceCtorEq] at hbr) <;> (try (with_reducible exfalso; omega))) | ((with_reducible refine runK hA hd hQ 1 ?hk ?_); (case hk => exact trivial); (conv => arg 9; cbv); (try simp only [OK])) | ((with_reducible refine need_of ?hn ?_); (case hn => ((simp (disch := omega) only [hA, OK, emaU, Int.reduceToNat, s_bat, s_rep1, s_setl, List.length_replicate]) <;> omega)))
    refine .inr ⟨7, _, rfl, rfl, TriY.mono hr fun v hh hx => ?_⟩
    rcases hx with ⟨hok, hv, idm', hid', hh'⟩ | ⟨hno, hv, e, pf, pcf, cntf, idf, he, hh'⟩
    · have hz1' : (A.ib .add .i64 z 1).toNat = z.toNat + 1 := by simp (disch := omega) only [hA, OK, emaU, Int.reduceToNat, s_bat, s_rep1, s_setl, List.length_replicate]; omega
      obtain ⟨c1, hc1⟩ : ∃ c : Int, c = (prevz ++ [p]).length := ⟨_, rfl⟩
      obtain ⟨i1, hi1⟩ : ∃ c, c = imE idm' := ⟨_, rfl⟩
      rw [← hc1, ← hi1] at hh'
      subst hv; subst hh'
      with_reducible refine runK hA hd hQ 1 ?hk ?_
      case hk => exact trivial
      conv => arg 9; cbv
      try simp only [OK]
      repeat' first | (with_reducible refine OKK.loop ?_) | (with_reducible refine OKK.again ?_) | ((with_reducible refine ⟨fun hbr => ?_, fun hbr => ?_⟩) <;> (try simp (disch := omega) only [hA, OK, emaU, Int.reduceToNat, s_bat, s_rep1, s_setl, List.length_replicate, reduceCtorEq] at hbr) <;> (try (with_reducible exfalso; omega))) | ((with_reducible refine runK hA hd hQ 1 ?hk ?_); (case hk => exact trivial); (conv => arg 9; cbv); (try simp only [OK])) | ((with_reducible refine need_of ?hn ?_); (case hn => ((simp (disch := omega) only [hA, OK, emaU, Int.reduceToNat, s_bat, s_rep1, s_setl, List.length_replicate]) <;> omega)))
      rotate_right
      · refine OKs.mask (msk 56 [0, 1, 2, 3, 4, 5, 13, 14, 15]) (OKs.mvE L10 [] (by rw [hρ]; rfl) ⟨by decide, by simp [sizeH], by simp⟩ (mvH10 hLT rfl (fun g z => by rw [hi1]; exact mvM_im g z _) [_]) ?_)
        show OKs Tryz.prog gs none I0 ρ0 w0 Q _ (St.mk (mvE _ _ pe :: _) _)
        rw [hpem]
        refine (ih _ _ ⟨A.ib .add .i64 z 1, prevz ++ [p], idm', c1, i1, rfl, rfl, ?_, ?_, hc1, hi1, hid', ?_, ?_, ?_⟩ ?_)
        · simp (disch := omega) only [hA, OK, emaU, Int.reduceToNat, s_bat, s_rep1, s_setl, List.length_replicate]; omega
        · simp (disch := omega) only [hA, OK, emaU, Int.reduceToNat, s_bat, s_rep1, s_setl, List.length_replicate]; omega
        · simp only [List.length_append, List.length_singleton]; omega
        · rw [hz1', hstep, if_neg (by omega), hpz, List.append_assoc]
        · rw [hz1', hstep, if_neg (by omega), allN_app]; exact ⟨hall, by rw [← hpz]; exact ⟨hok.1, hok.2, trivial⟩⟩
        · simp (disch := omega) only [hA, OK, emaU, Int.reduceToNat, s_bat, s_rep1, s_setl, List.length_replicate]; omega
      all_goals
        obtain ⟨K, hK⟩ : ∃ K, K = nodesFs (path ++ [(l.take z.toNat).length]) [] (inD || decide (k = 19)) kids := ⟨_, rfl⟩
        have t := ihl kids (path ++ [(l.take z.toNat).length]) (.isl wn none wc) wc (inD || decide (k = 19)) (prevz ++ [p]) idm' kn kc c1 i1 (by rw [hpl1]; omega) (by rw [hpl1]; omega) (by rw [wayE, if_neg (by simp), hpl1, hwn]) (by rw [hpl1]; omega) hwcl hkok.2.2.2.2.2.2 hkok.2.2.2.2.2.1 hid' (by simp only [List.length_append, List.length_singleton]; omega) hkn hkc hc1 hi1
        rw [← hK] at t
        have t2 := Tri.args (args := [.isl wn none wc, .isl kn none kc, _, .ptr 8 0, .ptr 6 0, .ptr 9 0]) t (UpL.cons (Up.refl _) (UpL.cons (Up.refl _) (UpL.cons (x := if inD then .lit (.bool true) else .sb (A.ic .eql k 19)) (by
          cases inD
          · rw [show (false || decide (k = 19)) = A.ic .eql k 19 by rw [hA, s_eql, Bool.false_or]]; exact Up.refl _
          · rw [show (true || decide (k = 19)) = true by rw [Bool.true_or]]; exact Up.sb _) (UpL.cons (Up.refl _) (UpL.cons (Up.refl _) (UpL.cons (Up.refl _) UpL.nil))))))
        rw [← mvH10 (fn := fn) (nn := nn) (fc := fc) (nc := nc) (res := resOK) (cnt := c1) (ie := i1) (LA := LA) (LB := LB) (st := 0) (pd := none) hLT rfl (fun g z => by rw [hi1]; exact mvM_im g z _) [.blk [.lit (.string nm), .lit (.bool nul), .lit (.int .i64 k), .lit (.int .i64 w), .lit (.int .i64 i), .lit (.int .i64 x), .isl kn none kc]], (by assumption : inD = _)] at t2
        refine CallOK.of (goodF_of F81_ok) (Tri.mono (Tri.sub L10 [] ⟨by decide, by simp [sizeH], by simp⟩ (by simp) t2 (.inl rfl)) fun v hh hx => ?_)
        obtain ⟨v0, h0, hw, hv, hh'⟩ := hx
        rcases hw with ⟨hok2, hv0, idm2, hid2, hh0⟩ | ⟨hno2, hv0, e, pf, pcf, cntf, idf, he, hh0⟩
        · obtain ⟨c2, hc2⟩ : ∃ c : Int, c = (prevz ++ [p] ++ K).length := ⟨_, rfl⟩
          obtain ⟨i2, hi2⟩ : ∃ c, c = imE idm2 := ⟨_, rfl⟩
          have hlen2 : (prevz ++ [p] ++ K).length ≤ 256 := by
            have h1 := hok.1
            rcases allN_len hok2 with h2 | h2
            · rw [h2]; simp only [List.length_append, List.length_singleton, List.length_nil]; omega
            · simp only [List.length_append, List.length_singleton] at h2 ⊢; omega
          rw [List.append_nil, ← hc2, ← hi2] at hh0
          subst hh0; subst hv0
          have hh2 := hh'.trans (subH10 hLT rfl (fun g z => by rw [hi2]; exact mvM_im g z _) _)
          clear hh'
          subst hv; subst hh2
          with_reducible refine runK hA hd hQ 1 ?hk ?_
          case hk => exact trivial
          conv => arg 9; cbv
          try simp only [OK]
          repeat' first | (with_reducible refine OKK.loop ?_) | (with_reducible refine OKK.again ?_) | ((with_reducible refine ⟨fun hbr => ?_, fun hbr => ?_⟩) <;> (try simp (disch := omega) only [hA, OK, emaU, Int.reduceToNat, s_bat, s_rep1, s_setl, List.length_replicate, reduceCtorEq] at hbr) <;> (try (with_reducible exfalso; omega))) | ((with_reducible refine runK hA hd hQ 1 ?hk ?_); (case hk => exact trivial); (conv => arg 9; cbv); (try simp only [OK])) | ((with_reducible refine need_of ?hn ?_); (case hn => ((simp (disch := omega) only [hA, OK, emaU, Int.reduceToNat, s_bat, s_rep1, s_setl, List.length_replicate]) <;> omega)))
          refine OKs.mask (msk 56 [0, 1, 2, 3, 4, 5, 13, 14, 15]) (OKs.mvE L10 [] (by rw [hρ]; rfl) ⟨by decide, by simp [sizeH], by simp⟩ (mvH10 hLT rfl (fun g z => by rw [hi2]; exact mvM_im g z _) [_]) ?_)
          show OKs Tryz.prog gs none I0 ρ0 w0 Q _ (St.mk (mvE _ _ pe :: _) _)
          rw [hpem]
          refine (ih _ _ ⟨A.ib .add .i64 z 1, prevz ++ [p] ++ K, idm2, c2, i2, rfl, rfl, ?_, ?_, hc2, hi2, hid2, ?_, ?_, ?_⟩ ?_)
          · simp (disch := omega) only [hA, OK, emaU, Int.reduceToNat, s_bat, s_rep1, s_setl, List.length_replicate]; omega
          · simp (disch := omega) only [hA, OK, emaU, Int.reduceToNat, s_bat, s_rep1, s_setl, List.length_replicate]; omega
          · exact hlen2
          · rw [hz1', hstep, if_pos (by omega), ← hK, hpz, List.append_assoc, List.append_assoc, List.singleton_append]
          · rw [hz1', hstep, if_pos (by omega), ← hK, allN_app]; exact ⟨hall, by rw [← hpz]; exact ⟨hok.1, hok.2, hok2⟩⟩
          · simp (disch := omega) only [hA, OK, emaU, Int.reduceToNat, s_bat, s_rep1, s_setl, List.length_replicate]; omega
        · obtain ⟨i2, hi2⟩ : ∃ c, c = imE idf := ⟨_, rfl⟩
          rw [List.append_nil, ← hi2] at hh0
          subst hh0; subst hv0
          have hh2 := hh'.trans (subH10 hLT rfl (fun g z => by rw [hi2]; exact mvM_im g z _) _)
          clear hh'
          subst hv; subst hh2
          with_reducible refine runK hA hd hQ 1 ?hk ?_
          case hk => exact trivial
          conv => arg 9; cbv
          try simp only [OK]
          repeat' first | (with_reducible refine OKK.loop ?_) | (with_reducible refine OKK.again ?_) | ((with_reducible refine ⟨fun hbr => ?_, fun hbr => ?_⟩) <;> (try simp (disch := omega) only [hA, OK, emaU, Int.reduceToNat, s_bat, s_rep1, s_setl, List.length_replicate, reduceCtorEq] at hbr) <;> (try (with_reducible exfalso; omega))) | ((with_reducible refine runK hA hd hQ 1 ?hk ?_); (case hk => exact trivial); (conv => arg 9; cbv); (try simp only [OK])) | ((with_reducible refine need_of ?hn ?_); (case hn => ((simp (disch := omega) only [hA, OK, emaU, Int.reduceToNat, s_bat, s_rep1, s_setl, List.length_replicate]) <;> omega)))
          refine FinR.intro rfl (.inr ⟨fun hall2 => ?_, rfl, e, pf, pcf, cntf, idf, _, he, by rw [← hi2]; rfl⟩)
          rw [hR, allN_app, ← hpz, if_pos (by omega), ← hK] at hall2
          exact hno2 ((allN_app K R (prevz ++ [p])).1 hall2.2.2.2).1
    · obtain ⟨i1, hi1⟩ : ∃ c, c = imE idf := ⟨_, rfl⟩
      rw [← hi1] at hh'
      subst hv; subst hh'
      with_reducible refine runK hA hd hQ 1 ?hk ?_
      case hk => exact trivial
      conv => arg 9; cbv
      try simp only [OK]
      repeat' first | (with_reducible refine OKK.loop ?_) | (with_reducible refine OKK.again ?_) | ((with_reducible refine ⟨fun hbr => ?_, fun hbr => ?_⟩) <;> (try simp (disch := omega) only [hA, OK, emaU, Int.reduceToNat, s_bat, s_rep1, s_setl, List.length_replicate, reduceCtorEq] at hbr) <;> (try (with_reducible exfalso; omega))) | ((with_reducible refine runK hA hd hQ 1 ?hk ?_); (case hk => exact trivial); (conv => arg 9; cbv); (try simp only [OK])) | ((with_reducible refine need_of ?hn ?_); (case hn => ((simp (disch := omega) only [hA, OK, emaU, Int.reduceToNat, s_bat, s_rep1, s_setl, List.length_replicate]) <;> omega)))
      refine FinR.intro rfl (.inr ⟨fun hall2 => ?_, rfl, e, pf, pcf, cntf, idf, _, he, by rw [← hi1]; rfl⟩)
      rw [hR, allN_app, ← hpz] at hall2
      exact hno ⟨hall2.2.1, hall2.2.2.1⟩
  rcases hways with ⟨hp0, hpe1⟩ | ⟨hp0, hpe1⟩ <;> rw [hpe1]
  all_goals
    with_reducible refine runS hA hd hQ 1 ?hk ?_
    case hk => exact trivial
    conv => arg 9; cbv
    try simp only [OK]
    repeat' first | (with_reducible refine OKK.loop ?_) | (with_reducible refine OKK.again ?_) | (with_reducible refine OKK.stopS (some 25) ?_) | (with_reducible refine OKK.stopO (some 25) ?_) | ((with_reducible refine ⟨fun hbr => ?_, fun hbr => ?_⟩) <;> (try simp (disch := omega) only [hA, OK, emaU, Int.reduceToNat, s_bat, s_rep1, s_setl, List.length_replicate, reduceCtorEq] at hbr) <;> (try (with_reducible exfalso; omega))) | ((with_reducible refine runK hA hd hQ 1 ?hk ?_); (case hk => exact trivial); (conv => arg 9; cbv); (try simp only [OK])) | ((with_reducible refine need_of ?hn ?_); (case hn => ((simp (disch := omega) only [hA, OK, emaU, Int.reduceToNat, s_bat, s_rep1, s_setl, List.length_replicate]) <;> omega))) | ((refine ⟨_, _, ?l1, (hLf (by omega)), rfl, ?_⟩); (case l1 => exact rfl))
  · refine CallOK.of (goodF_of F82_ok) (Tri.mono (cloneNil_ok _) fun v hh hx => ?_)
    obtain ⟨e1, e2⟩ := hx
    subst e1; subst e2
    with_reducible refine runK hA hd hQ 1 ?hk ?_
    case hk => exact trivial
    conv => arg 9; cbv
    try simp only [OK]
    repeat' first | (with_reducible refine OKK.loop ?_) | (with_reducible refine OKK.again ?_) | (with_reducible refine OKK.stopS (some 25) ?_) | (with_reducible refine OKK.stopO (some 25) ?_) | ((with_reducible refine ⟨fun hbr => ?_, fun hbr => ?_⟩) <;> (try simp (disch := omega) only [hA, OK, emaU, Int.reduceToNat, s_bat, s_rep1, s_setl, List.length_replicate, reduceCtorEq] at hbr) <;> (try (with_reducible exfalso; omega))) | ((with_reducible refine runK hA hd hQ 1 ?hk ?_); (case hk => exact trivial); (conv => arg 9; cbv); (try simp only [OK])) | ((with_reducible refine need_of ?hn ?_); (case hn => ((simp (disch := omega) only [hA, OK, emaU, Int.reduceToNat, s_bat, s_rep1, s_setl, List.length_replicate]) <;> omega)))
    refine OKs.mask (msk 56 [0, 1, 2, 3, 4, 5, 10, 11, 12, 13, 14, 15]) ?_
    obtain ⟨wc, hwc⟩ : ∃ c, c = A.tak (A.mul 1 1) (A.drp 0 [.lit (.int .i64 z)]) := ⟨_, rfl⟩
    have hwc1 : wc = [.lit (.int .i64 z)] := by rw [hwc, hA]; rfl
    refine OKs.mvE L11 [12] (by rw [hρ]; rfl) ⟨by decide, by simp [sizeH], fun id hid => by simp at hid; subst hid; exact ⟨_, rfl, by rw [hA]; rfl⟩⟩ (mvH11 [12] (by simp) hLT rfl hmvi _ rfl _) ?_
    refine OKs.up 12 (.isl 1 none wc) (by rw [hwc]; exact Up.refl _) ?_
    have hm := main 1 wc (by assumption) (by rw [hpn, hp0]; rfl) (by rw [hwc1]; rfl) (by rw [hwc1]; rfl)
    rw [hpe1] at hm
    exact hm
  rotate_left
  · refine CallOK.of (goodF_of F82_ok) (Tri.mono (clone_ok pn pc _ hp0 (by omega) (by omega) hpcl) fun v hh hx => ?_)
    obtain ⟨e1, e2⟩ := hx
    subst e1; subst e2
    have hpcn : pc.length = pn := by omega
    with_reducible refine runK hA hd hQ 1 ?hk ?_
    case hk => exact trivial
    conv => arg 9; cbv
    try simp only [OK]
    repeat' first | (with_reducible refine OKK.loop ?_) | (with_reducible refine OKK.again ?_) | (with_reducible refine OKK.stopS (some 25) ?_) | (with_reducible refine OKK.stopO (some 25) ?_) | ((with_reducible refine ⟨fun hbr => ?_, fun hbr => ?_⟩) <;> (try simp (disch := omega) only [hA, OK, emaU, Int.reduceToNat, s_bat, s_rep1, s_setl, List.length_replicate, reduceCtorEq] at hbr) <;> (try (with_reducible exfalso; omega))) | ((with_reducible refine runK hA hd hQ 1 ?hk ?_); (case hk => exact trivial); (conv => arg 9; cbv); (try simp only [OK])) | ((with_reducible refine need_of ?hn ?_); (case hn => ((simp (disch := omega) only [hA, OK, emaU, Int.reduceToNat, s_bat, s_rep1, s_setl, List.length_replicate]) <;> omega)))
    refine OKs.mask (msk 56 [0, 1, 2, 3, 4, 5, 10, 11, 12, 13, 14, 15]) ?_
    obtain ⟨wc, hwc⟩ : ∃ c, c = A.app (A.tak (A.mul pn 1) (A.drp 0 pc)) (A.tak (A.mul 1 1) (A.drp 0 [.lit (.int .i64 z)])) := ⟨_, rfl⟩
    have hwc1 : wc = pc ++ [.lit (.int .i64 z)] := by rw [hwc, hA]; simp [s_app, s_tak, s_drp, s_mulN, ← hpcn]
    have hwc2 : clL wc = true := by
      rw [hwc1]
      refine clL_of fun x hx => ?_
      rcases List.mem_append.1 hx with hx | hx
      · exact clL_mem hpcl x hx
      · rw [List.mem_singleton.1 hx]; rfl
    obtain ⟨wn, hwn⟩ : ∃ c, c = A.add pn 1 := ⟨_, rfl⟩
    have hwn1 : wn = pn + 1 := by rw [hwn, hA]; rfl
    refine OKs.mvE L11 [13] (by rw [hρ]; rfl) ⟨by decide, by simp [sizeH], fun id hid => by simp at hid; subst hid; exact ⟨_, rfl, by rw [hwc] at hwc2; exact hwc2⟩⟩ (mvH11 [13] (by simp) hLT rfl hmvi _ rfl _) ?_
    refine OKs.up 12 (.isl wn none wc) (by rw [hwc, hwn]; exact Up.refl _) ?_
    have hm := main wn wc (by assumption) hwn1 (by rw [hwc1, hwn1]; simp [hpcn]) hwc2
    rw [hpe1] at hm
    exact hm
  all_goals
    have hall' : nodesFs path [] inD (l.take z.toNat) = nodesFs path [] inD l := by rw [List.take_of_length_le (by omega)]
    rw [hall'] at hall hpz
    refine FinR.intro rfl (.inl ⟨hall, rfl, idz, [], by rw [← hpz]; exact hidz, ?_⟩)
    rw [← hpz, ← hcz, ← hiz]
    rfl
end Go.Proofs.YtecephhhjhpcjaaGreatDoor.Stats
end
section
set_option linter.unusedVariables false
set_option linter.unusedSimpArgs false
-- emaX: s_bat
namespace Go.Proofs.YtecephhhjhpcjaaGreatDoor.Stats
open Go Go.Proofs.YtecephhhjhpcjaaGreatDoor Go.Proofs.YtecephhhjhpcjaaGreatDoor.Em
def rfA : EC → EC
  | .rf _ _ a _ => a
  | _ => .skip
def rfB : EC → EC
  | .rf _ _ _ b => b
  | _ => .skip
def LAc : EC := rfA (blkC (sndC (fstC (nthC F31.body 5))))
def LBc : EC := rfB (blkC (sndC (fstC (nthC F31.body 5))))
def LTc : List EV := mkT 71 [(1, .ptr 0 0), (2, .ptr 1 0), (5, .ptr 2 0), (6, .ptr 4 0), (45, .fn (.func 80) [] [.ptr 6 0, .ptr 5 0])]
theorem LTc_low : LowT LTc := fun g z hg => by
  show (mkT 71 [(1, mvE g z (.ptr 0 0)), (2, mvE g z (.ptr 1 0)), (5, mvE g z (.ptr 2 0)), (6, mvE g z (.ptr 4 0)), (45, mvE g z (.fn (.func 80) [] [.ptr 6 0, .ptr 5 0]))]) = _
  simp only [mvE, mvL, hg 0 (by decide), hg 1 (by decide), hg 2 (by decide), hg 4 (by decide), hg 5 (by decide), hg 6 (by decide)]
  rfl
theorem sub3m (a b c d e f g h i j k l : EO) {ie : List (EV × EV)} (hm : ∀ g z, mvM g z ie = ie) : subH [3] [a, b, c, d, e, f, g, h, i, j, k, l] [.emap ie] = [a, b, c, .emap ie, e, f, g, h, i, j, k, l] := by
  show ([a, b, c, .emap (mvM _ _ ie), e, f, g, h, i, j, k, l] : EH) = _
  rw [hm]
theorem mvH11n {fn nn : Nat} {fc nc res : List EV} {cnt : Int} {ie : List (EV × EV)} {LT : List EV} {LA LB : EC} {st : Nat} {pd : PD} (hLT : LowT LT) (hres : clL res = true) (hie : ∀ g z, mvM g z ie = ie) (fb : List EV) (hfb : clL fb = true) (t : EH) :
    mvH L11 [] (H10 fn nn fc nc res cnt ie LT LA LB st pd ++ (.blk fb :: t)) L11 = H10 fn nn fc nc res cnt ie LT LA LB st pd ++ [.blk fb] := by
  show ([.blk [.isl fn none fc, .isl nn none nc], .blk (mvL _ _ res), .blk [.lit (.int .i64 cnt)], .emap (mvM _ _ ie), .blk [.mp 3], .blk [.isl fn none fc], .blk [.lit (.int .i64 65)], .lp (mvL (mvG L11 []) (mvZ [] _) LT) [46] LA LB st pd, .blk [.yl 7], .blk [.fn (.func 81) [] [.ptr 8 0, .ptr 6 0, .ptr 9 0]], .blk (mvL _ _ fb)] : EH) = _
  rw [hie, hLT _ _ (by decide), mvL_cl _ _ _ hres, mvL_cl _ _ _ hfb]
  rfl
section
variable {ro : Option Nat} {I0 : Imm} {ρ0 : Ren} {w0 : World} {Q : Exit → Act → World → Prop}
set_option maxRecDepth 100000 in
set_option maxHeartbeats 8000000 in
theorem asg_ok (fn nn wn an kn : Nat) (fc nc wc ac kc : List EV) (nm : ByteArray) (nul inD : Bool) (k w i x : Int) (cnt : Int) (ie : List (EV × EV)) (T : List EV) (LA LB : EC)
    (hpost : ∀ a w', SimX Tryz.prog gs I0 ρ0 w0 ⟨mkT 71 [(1, .ptr 0 0), (2, .ptr 1 0), (5, .ptr 2 0), (6, .ptr 4 0), (7, .ptr 11 0), (45, .fn (.func 80) [] [.ptr 6 0, .ptr 5 0])], H10 fn nn fc nc resOK cnt ie T LA LB 0 none ++ [.blk [.lit (.string nm), .lit (.bool nul), .lit (.int .i64 k), .lit (.int .i64 w), .lit (.int .i64 i), .lit (.int .i64 x), .isl kn none kc], .blk [.isl wn none wc, .isl an none ac, .lit (.string nm), .lit (.bool nul), .lit (.int .i64 k), .lit (.int .i64 w), .lit (.int .i64 i), .lit (.int .i64 x), .isl kn none kc, .sb inD]]⟩ a w' → Q .normal a w') :
    OKs Tryz.prog gs ro I0 ρ0 w0 Q [.c LAc] ⟨setPs LTc [46] [.agg [.isl wn none wc, .isl an none ac, .lit (.string nm), .lit (.bool nul), .lit (.int .i64 k), .lit (.int .i64 w), .lit (.int .i64 i), .lit (.int .i64 x), .isl kn none kc, .sb inD]], H10 fn nn fc nc resOK cnt ie T LA LB 0 none ++ [.blk [.lit (.string nm), .lit (.bool nul), .lit (.int .i64 k), .lit (.int .i64 w), .lit (.int .i64 i), .lit (.int .i64 x), .isl kn none kc]]⟩ := by
  obtain ⟨A, hA⟩ : ∃ A, A = stdA := ⟨_, rfl⟩
  have hQ : EndsQ Tryz.prog gs I0 ρ0 w0 Q (fun _ => False) := EndsQ.no
  unfold H10
  with_reducible refine runS hA hd hQ 1 ?hk ?_
  case hk => exact trivial
  conv => arg 9; cbv
  try simp only [OK]
  repeat' first | (with_reducible refine OKK.loop ?_) | (with_reducible refine OKK.again ?_) | (with_reducible refine OKK.nilS ?_) | (with_reducible refine OKK.retS ?_) | (with_reducible refine OKK.rfS ?_) | ((with_reducible refine ⟨fun hbr => ?_, fun hbr => ?_⟩) <;> (try simp (disch := omega) only [hA, OK, emaU, Int.reduceToNat, s_bat, reduceCtorEq] at hbr) <;> (try (with_reducible exfalso; omega))) | ((with_reducible refine runK hA hd hQ 1 ?hk ?_); (case hk => exact trivial); (conv => arg 9; cbv); (try simp only [OK])) | ((with_reducible refine need_of ?hn ?_); (case hn => ((simp (disch := omega) only [hA, OK, emaU, Int.reduceToNat, s_bat]) <;> omega)))
  refine OKs.mask (msk 71 [1, 2, 5, 6, 7, 45]) ?_
  exact OKs.nil hpost
set_option maxRecDepth 100000 in
set_option maxHeartbeats 8000000 in
theorem body_ok (ρl : ρ0.length = 11) (fn nn wn an kn : Nat) (fc nc wc ac kc : List EV) (nm : ByteArray) (nul inD : Bool) (k w i x : Int) (cnt : Int) (ie : List (EV × EV)) (T : List EV) (LA LB : EC) (hLT : LowT T) (hwcl : clL wc = true) (hmvi : ∀ g z, mvM g z ie = ie) (hmvs : ∀ g z k v, mvM g z (stdA.mset ie (.lit (.int .i64 k)) (.lit (.int .i64 v))) = stdA.mset ie (.lit (.int .i64 k)) (.lit (.int .i64 v)))
    (hkey : ∀ k, stdA.keyed 0 ie (.lit (.int .i64 k)) = true) (hc1 : 0 ≤ cnt) (hc2 : cnt ≤ 256) (ok : Prop)
    (hw : Tri Tryz.prog gs 59 [.agg [.isl wn none wc, .isl an none ac, .lit (.string nm), .lit (.bool nul), .lit (.int .i64 k), .lit (.int .i64 w), .lit (.int .i64 i), .lit (.int .i64 x), .isl kn none kc, .sb inD], .lit (.int .i64 cnt), .mp 0] [.emap ie] fun v h' => IsN .i64 (fun n => n = 0 ↔ ok) v ∧ h' = [.emap ie])
    (hyes : ok → ∀ a w', SimX Tryz.prog gs I0 ρ0 w0 ⟨LTc, H10 fn nn fc nc resOK (cnt + 1) (if k = 19 then stdA.mset ie (.lit (.int .i64 i)) (.lit (.int .i64 (cnt + 1))) else ie) T LA LB 1 none ++ [.blk [.lit (.string nm), .lit (.bool nul), .lit (.int .i64 k), .lit (.int .i64 w), .lit (.int .i64 i), .lit (.int .i64 x), .isl kn none kc]]⟩ a w' → Q .normal a w')
    (hno : ¬ ok → ∀ e, e ≠ 0 → ∀ a w', SimX Tryz.prog gs I0 ρ0 w0 ⟨LTc, H10 fn nn fc nc (resNo e wn wc) cnt ie T LA LB 1 none ++ [.blk [.lit (.string nm), .lit (.bool nul), .lit (.int .i64 k), .lit (.int .i64 w), .lit (.int .i64 i), .lit (.int .i64 x), .isl kn none kc]]⟩ a w' → Q .ret a w') :
    OKs Tryz.prog gs ro I0 ρ0 w0 Q [.c LBc] ⟨mkT 71 [(1, .ptr 0 0), (2, .ptr 1 0), (5, .ptr 2 0), (6, .ptr 4 0), (7, .ptr 11 0), (45, .fn (.func 80) [] [.ptr 6 0, .ptr 5 0])], H10 fn nn fc nc resOK cnt ie T LA LB 1 none ++ [.blk [.lit (.string nm), .lit (.bool nul), .lit (.int .i64 k), .lit (.int .i64 w), .lit (.int .i64 i), .lit (.int .i64 x), .isl kn none kc], .blk [.isl wn none wc, .isl an none ac, .lit (.string nm), .lit (.bool nul), .lit (.int .i64 k), .lit (.int .i64 w), .lit (.int .i64 i), .lit (.int .i64 x), .isl kn none kc, .sb inD]]⟩ := by
  obtain ⟨A, hA⟩ : ∃ A, A = stdA := ⟨_, rfl⟩
  have hQ : EndsQ Tryz.prog gs I0 ρ0 w0 Q (fun _ => False) := EndsQ.no
  unfold H10
  with_reducible refine runS hA hd hQ 1 ?hk ?_
  case hk => exact trivial
  conv => arg 9; cbv
  try simp only [OK]
  repeat' first | (with_reducible refine OKK.loop ?_) | (with_reducible refine OKK.again ?_) | (with_reducible refine OKK.nilS ?_) | (with_reducible refine OKK.retS ?_) | (with_reducible refine OKK.rfS ?_) | ((with_reducible refine ⟨fun hbr => ?_, fun hbr => ?_⟩) <;> (try simp (disch := omega) only [hA, OK, emaU, Int.reduceToNat, s_bat, reduceCtorEq] at hbr) <;> (try (with_reducible exfalso; omega))) | ((with_reducible refine runK hA hd hQ 1 ?hk ?_); (case hk => exact trivial); (conv => arg 9; cbv); (try simp only [OK])) | ((with_reducible refine need_of ?hn ?_); (case hn => ((simp (disch := omega) only [hA, OK, emaU, Int.reduceToNat, s_bat]) <;> omega)))
  refine CallOK.of (goodF_of F59_ok) (Tri.mono (Tri.sub [3] [] ⟨by decide, by simp [sizeH], by simp⟩ (by simp) (show Tri _ _ _ _ (mvH [3] [] _ [3]) _ from by
    show Tri Tryz.prog gs _ [.agg [.isl wn none wc, .isl an none ac, .lit (.string nm), .lit (.bool nul), .lit (.int .i64 k), .lit (.int .i64 w), .lit (.int .i64 i), .lit (.int .i64 x), .isl kn none kc, .sb inD], .lit (.int .i64 cnt), .mp 0] [.emap (mvM _ _ ie)] _
    rw [hmvi]; exact hw) (.inl rfl)) fun v hh hx => ?_)
  obtain ⟨v0, h0, ⟨⟨z, hv0, hz⟩, hh0⟩, hv, hh'⟩ := hx
  subst hv0; subst hh0
  have hh2 := hh'.trans (sub3m _ _ _ _ _ _ _ _ _ _ _ _ hmvi)
  clear hh'
  subst hv; subst hh2
  have e1 : A.ib .add .i64 cnt 1 = cnt + 1 := by simp (disch := omega) only [hA, OK, emaU, Int.reduceToNat, s_bat]
  with_reducible refine runK hA hd hQ 1 ?hk ?_
  case hk => exact trivial
  conv => arg 9; cbv
  try simp only [OK]
  repeat' first | (with_reducible refine OKK.loop ?_) | (with_reducible refine OKK.again ?_) | (with_reducible refine OKK.nilS ?_) | (with_reducible refine OKK.retS ?_) | (with_reducible refine OKK.rfS ?_) | ((with_reducible refine ⟨fun hbr => ?_, fun hbr => ?_⟩) <;> (try simp (disch := omega) only [hA, OK, emaU, Int.reduceToNat, s_bat, reduceCtorEq , hkey] at hbr) <;> (try (with_reducible exfalso; omega))) | ((with_reducible refine runK hA hd hQ 1 ?hk ?_); (case hk => exact trivial); (conv => arg 9; cbv); (try simp only [OK])) | ((with_reducible refine need_of ?hn ?_); (case hn => ((simp (disch := omega) only [hA, OK, emaU, Int.reduceToNat, s_bat , hkey]) <;> omega)))
  · refine OKs.mask (msk 71 [1, 2, 5, 6, 45]) (OKs.mvE L11 [] (by rw [ρl]; rfl) ⟨by decide, by simp [sizeH], by simp⟩ (mvH11n hLT rfl hmvi _ rfl [_]) (OKs.retO ?_))
    exact hno (fun h => hbr (hz.2 h)) z hbr
  · refine OKs.mask (msk 71 [1, 2, 5, 6, 45]) (OKs.mvE L11 [] (by rw [ρl]; rfl) ⟨by decide, by simp [sizeH], by simp⟩ (mvH11n hLT rfl (fun g z => by rw [hA]; exact hmvs g z _ _) _ rfl [_]) (OKs.nil ?_))
    have := hyes (hz.1 (by omega))
    rw [if_pos hbr, ← e1, ← hA] at this
    exact this
  · refine OKs.mask (msk 71 [1, 2, 5, 6, 45]) (OKs.mvE L11 [] (by rw [ρl]; rfl) ⟨by decide, by simp [sizeH], by simp⟩ (mvH11n hLT rfl hmvi _ rfl [_]) (OKs.nil ?_))
    have := hyes (hz.1 (by omega))
    rw [if_neg hbr, ← e1] at this
    exact this
end
theorem IdsOf_more {idm : List (Int × Int)} {prev : List Pl} {p : Pl} {v : Int} (h : IdsOf idm prev) : IdsOf (if p.f.kind = 19 then imSet idm p.f.id v else idm) (prev ++ [p]) := fun a => by
  by_cases hk : p.f.kind = 19
  · rw [if_pos hk, imSet_keys, h a]
    constructor
    · rintro (⟨o, h1, h2, h3⟩ | rfl)
      · exact ⟨o, by simp [h1], h2, h3⟩
      · exact ⟨p, by simp, hk, rfl⟩
    · rintro ⟨o, h1, h2, h3⟩
      rcases List.mem_append.1 h1 with h1 | h1
      · exact .inl ⟨o, h1, h2, h3⟩
      · rw [List.mem_singleton.1 h1] at h3; exact .inr h3.symm
  · rw [if_neg hk, h a]
    constructor
    · rintro ⟨o, h1, h2, h3⟩
      exact ⟨o, by simp [h1], h2, h3⟩
    · rintro ⟨o, h1, h2, h3⟩
      rcases List.mem_append.1 h1 with h1 | h1
      · exact ⟨o, h1, h2, h3⟩
      · rw [List.mem_singleton.1 h1] at h2; exact absurd h2 hk
set_option maxHeartbeats 4000000 in
theorem round_ok (fn nn : Nat) (fc nc : List EV) : RoundOK fn nn fc nc LTc LAc LBc := by
  intro prev idm p rest wn an kn wc ac kc cnt ie hids hprev hpl hwcl hal hok hwn han hac hkn hkc hcnt hie
  have hmvi : ∀ g z, mvM g z ie = ie := fun g z => by rw [hie]; exact mvM_im g z idm
  have hmvs : ∀ g z k v, mvM g z (stdA.mset ie (.lit (.int .i64 k)) (.lit (.int .i64 v))) = stdA.mset ie (.lit (.int .i64 k)) (.lit (.int .i64 v)) := fun g z k v => by rw [hie, im_set]; exact mvM_im g z _
  have hkey : ∀ k, stdA.keyed 0 ie (.lit (.int .i64 k)) = true := fun k => by rw [hie]; exact im_keyed idm k
  have hw := wrong_ok p wc rest prev idm hwcl hpl hal hok hprev hids
  rw [cellsP, ← hwn, ← han, ← hac, ← hkn, ← hkc, ← hcnt, ← hie] at hw
  have hmore := IdsOf_more (p := p) (v := cnt + 1) hids
  have hset : imE (if p.f.kind = 19 then imSet idm p.f.id (cnt + 1) else idm) = (if p.f.kind = 19 then stdA.mset ie (.lit (.int .i64 p.f.id)) (.lit (.int .i64 (cnt + 1))) else ie) := by
    by_cases hk : p.f.kind = 19
    · rw [if_pos hk, if_pos hk, hie, im_set]
    · rw [if_neg hk, if_neg hk, hie]
  have hlen : ((prev ++ [p]).length : Int) = cnt + 1 := by rw [hcnt]; simp
  generalize p.f.nm = nm, p.f.nul = nul, p.f.kind = k, p.f.width = w, p.f.id = i, p.f.idx = x, p.inD = inD at *
  by_cases hk : prev.length < 256 ∧ okN prev p
  · refine TriY.up (TriY_ofP (how := none) (s1 := ⟨mkT 71 [(1, .ptr 0 0), (2, .ptr 1 0), (5, .ptr 2 0), (6, .ptr 4 0), (7, .ptr 11 0), (45, .fn (.func 80) [] [.ptr 6 0, .ptr 5 0])], H10 fn nn fc nc resOK cnt ie LTc LAc LBc 0 none ++ [.blk [.lit (.string nm), .lit (.bool nul), .lit (.int .i64 k), .lit (.int .i64 w), .lit (.int .i64 i), .lit (.int .i64 x), .isl kn none kc], .blk [.isl wn none wc, .isl an none ac, .lit (.string nm), .lit (.bool nul), .lit (.int .i64 k), .lit (.int .i64 w), .lit (.int .i64 i), .lit (.int .i64 x), .isl kn none kc, .sb inD]]⟩)
      (S2 := fun s => s = ⟨LTc, H10 fn nn fc nc resOK (cnt + 1) (if k = 19 then stdA.mset ie (.lit (.int .i64 i)) (.lit (.int .i64 (cnt + 1))) else ie) LTc LAc LBc 1 none ++ [.blk [.lit (.string nm), .lit (.bool nul), .lit (.int .i64 k), .lit (.int .i64 w), .lit (.int .i64 i), .lit (.int .i64 x), .isl kn none kc]]⟩) rfl rfl
      (fun ro I0 ρ0 w0 Q hl _ hpost => asg_ok fn nn wn an kn fc nc wc ac kc nm nul inD k w i x cnt ie LTc LAc LBc hpost) rfl
      (fun ro I0 ρ0 w0 Q hl _ hpost => body_ok hl fn nn wn an kn fc nc wc ac kc nm nul inD k w i x cnt ie LTc LAc LBc LTc_low hwcl hmvi hmvs hkey (by omega) (by omega) _ hw (fun _ => hpost _ rfl) (fun hn => absurd hk hn))
      (fun s2 hs => by subst hs; exact ⟨_, _, _, _, _, _, rfl⟩)) fun v h' hx => ?_
    obtain ⟨hv, s2, t2, ps2, a2, b2, st2, pd2, rfl, hg, hh⟩ := hx
    cases hg
    refine ⟨.sb true, .inl ⟨hk, rfl, _, hmore, ?_⟩, by rw [hv]; exact Up.sb _⟩
    rw [hset, hlen]
    exact hh
  · refine TriY.up (TriY_ofP (how := some none) (s1 := ⟨mkT 71 [(1, .ptr 0 0), (2, .ptr 1 0), (5, .ptr 2 0), (6, .ptr 4 0), (7, .ptr 11 0), (45, .fn (.func 80) [] [.ptr 6 0, .ptr 5 0])], H10 fn nn fc nc resOK cnt ie LTc LAc LBc 0 none ++ [.blk [.lit (.string nm), .lit (.bool nul), .lit (.int .i64 k), .lit (.int .i64 w), .lit (.int .i64 i), .lit (.int .i64 x), .isl kn none kc], .blk [.isl wn none wc, .isl an none ac, .lit (.string nm), .lit (.bool nul), .lit (.int .i64 k), .lit (.int .i64 w), .lit (.int .i64 i), .lit (.int .i64 x), .isl kn none kc, .sb inD]]⟩)
      (S2 := fun s => ∃ e : Int, e ≠ 0 ∧ s = ⟨LTc, H10 fn nn fc nc (resNo e wn wc) cnt ie LTc LAc LBc 1 none ++ [.blk [.lit (.string nm), .lit (.bool nul), .lit (.int .i64 k), .lit (.int .i64 w), .lit (.int .i64 i), .lit (.int .i64 x), .isl kn none kc]]⟩) rfl rfl
      (fun ro I0 ρ0 w0 Q hl _ hpost => asg_ok fn nn wn an kn fc nc wc ac kc nm nul inD k w i x cnt ie LTc LAc LBc hpost) rfl
      (fun ro I0 ρ0 w0 Q hl _ hpost => body_ok hl fn nn wn an kn fc nc wc ac kc nm nul inD k w i x cnt ie LTc LAc LBc LTc_low hwcl hmvi hmvs hkey (by omega) (by omega) _ hw (fun h => absurd h hk) (fun _ e he => hpost _ ⟨e, he, rfl⟩))
      (fun s2 ⟨e, he, hs⟩ => by subst hs; exact ⟨_, _, _, _, _, _, rfl⟩)) fun v h' hx => ?_
    obtain ⟨hv, s2, t2, ps2, a2, b2, st2, pd2, ⟨e, he, rfl⟩, hg, hh⟩ := hx
    cases hg
    refine ⟨.sb false, .inr ⟨hk, rfl, e, wn, wc, cnt, idm, he, ?_⟩, by rw [hv]; exact Up.sb _⟩
    rw [← hie]
    exact hh
end Go.Proofs.YtecephhhjhpcjaaGreatDoor.Stats
end
section
set_option linter.unusedVariables false
set_option linter.unusedSimpArgs false
-- emaX: s_bat
namespace Go.Proofs.YtecephhhjhpcjaaGreatDoor.Stats
open Go Go.Proofs.YtecephhhjhpcjaaGreatDoor Go.Proofs.YtecephhhjhpcjaaGreatDoor.Em
theorem all_ok (n : Nat) (c : List EV) (h : EH) : Tri Tryz.prog gs 58 [.isl n none c, .lit (.int .i64 65)] h fun v h' => v = .fn (.func 80) [] [.ptr (sizeH h + 1) 0, .ptr (sizeH h) 0] ∧ h' = pushH (pushH h (.blk [.isl n none c])) (.blk [.lit (.int .i64 65)]) := by
  have t : Tri Tryz.prog gs 58 [.isl n none c, .lit (.int .i64 65)] [] fun v h' => v = .fn (.func 80) [] [.ptr 1 0, .ptr 0 0] ∧ h' = [.blk [.isl n none c], .blk [.lit (.int .i64 65)]] := by
    refine Tri_of F58_ok fun I0 ρ0 w0 Q hρ hQ => ?_
    obtain ⟨A, hA⟩ : ∃ A, A = stdA := ⟨_, rfl⟩
    with_reducible refine runS hA hd hQ 200 ?hk ?_
    case hk => exact trivial
    conv => arg 9; cbv
    try simp only [OK]
    repeat' first | ((with_reducible refine ⟨fun hbr => ?_, fun hbr => ?_⟩) <;> (try simp (disch := omega) only [hA, OK, emaU, Int.reduceToNat, s_bat, reduceCtorEq] at hbr) <;> (try (with_reducible exfalso; omega))) | ((with_reducible refine runK hA hd hQ 200 ?hk ?_); (case hk => exact trivial); (conv => arg 9; cbv); (try simp only [OK])) | ((with_reducible refine need_of ?hn ?_); (case hn => ((simp (disch := omega) only [hA, OK, emaU, Int.reduceToNat, s_bat]) <;> omega)))
    exact FinR.intro rfl ⟨rfl, rfl⟩
  refine (Tri.frame (h := h) (R := fun v h' => v = .fn (.func 80) [] [.ptr 1 0, .ptr 0 0] ∧ h' = [.blk [.isl n none c], .blk [.lit (.int .i64 65)]]) [] (by simp) t (.inl rfl)).mono fun v h' ⟨v0, h0, ⟨e1, e2⟩, e3, e4⟩ => ?_
  subst e1; subst e2; subst e3; subst e4
  exact ⟨rfl, rfl⟩
def H8 (fn nn : Nat) (fc nc res : List EV) (cnt : Int) (ie : List (EV × EV)) (LT : List EV) (LA LB : EC) : EH :=
  [.blk [.isl fn none fc, .isl nn none nc], .blk res, .blk [.lit (.int .i64 cnt)], .emap ie, .blk [.mp 3], .blk [.isl fn none fc], .blk [.lit (.int .i64 65)], .lp LT [46] LA LB 0 none]
set_option maxRecDepth 100000 in
set_option maxHeartbeats 4000000 in
theorem all1_ok (fs : List Fld) (fn nn : Nat) (fc nc : List EV) (LT : List EV) (LA LB : EC) (hLT : LowT LT) (hround : RoundOK fn nn fc nc LT LA LB) (hok : okFs fs) (hfs : fs.length ≤ 140737488351232) (hfn : fn = fs.length) (hfc : fc = cellsFs fs) :
    Tri Tryz.prog gs 80 [.yl 7, .ptr 6 0, .ptr 5 0] (H8 fn nn fc nc resOK 0 [] LT LA LB) fun v h' => ∃ b, WalkR fn nn fc nc LT LA LB (allN [] (nodesFs [] [] false fs)) (nodesFs [] [] false fs) [] (.sb b) h' := by
  refine Tri_of F80_ok fun I0 ρ0 w0 Q hρ hQ => ?_
  obtain ⟨A, hA⟩ : ∃ A, A = stdA := ⟨_, rfl⟩
  unfold H8
  with_reducible refine runS hA hd hQ 1 ?hk ?_
  case hk => exact trivial
  conv => arg 9; cbv
  try simp only [OK]
  repeat' first | ((with_reducible refine ⟨fun hbr => ?_, fun hbr => ?_⟩) <;> (try simp (disch := omega) only [hA, OK, emaU, Int.reduceToNat, s_bat, reduceCtorEq] at hbr) <;> (try (with_reducible exfalso; omega))) | ((with_reducible refine runK hA hd hQ 1 ?hk ?_); (case hk => exact trivial); (conv => arg 9; cbv); (try simp only [OK])) | ((with_reducible refine need_of ?hn ?_); (case hn => ((simp (disch := omega) only [hA, OK, emaU, Int.reduceToNat, s_bat]) <;> omega)))
  have t := down_ok fn nn fc nc LT LA LB hLT hround 65 fs [] (.lit (.slice none 0 0)) [] false [] [] fn fc 0 [] (by simp) (by simp) rfl rfl rfl hok hfs (fun a => by simp) (by simp) hfn hfc rfl rfl
  have t2 := Tri.args (args := [.lit (.slice none 0 0), .isl fn none fc, .lit (.bool false), .ptr 8 0, .ptr 6 0, .ptr 9 0]) t (UpL.cons (Up.refl _) (UpL.cons (Up.refl _) (UpL.cons (Up.sb _) (UpL.cons (Up.refl _) (UpL.cons (Up.refl _) (UpL.cons (Up.refl _) UpL.nil))))))
  refine CallOK.of (goodF_of F81_ok) (Tri.mono t2 fun v hh hx => ?_)
  have hb : ∃ b, v = .sb b := hx.elim (fun h => ⟨_, h.2.1⟩) fun h => ⟨_, h.2.1⟩
  obtain ⟨b, rfl⟩ := hb
  rw [List.nil_append] at hx
  exact OKs.nil fun a w hs => (hQ ⟨_, hh⟩ (FinR.intro rfl ⟨b, hx⟩) a w hs).1
set_option maxRecDepth 100000 in
set_option maxHeartbeats 8000000 in
theorem check_ok (fs : List Fld) (ns : List Nt) (hfs : fs.length ≤ 140737488351232) (hns : ns.length ≤ 140737488351232) (hok : okFs fs) (hnt : ∀ x ∈ ns, x.1.size ≤ 140737488351232 ∧ x.2.size ≤ 140737488351232) (h : EH) :
    Tri Tryz.prog gs 31 [.agg [.isl fs.length none (cellsFs fs), .isl ns.length none (cellsNts ns)]] h fun v h' => IsF (mayS fs ns) v ∧ h' = h := by
  refine Tri.faultC rfl (Tri_of F31_ok fun I0 ρ0 w0 Q hρ hQ => ?_) h
  obtain ⟨A, hA⟩ : ∃ A, A = stdA := ⟨_, rfl⟩
  have hng := nt_get ns
  obtain ⟨fn, hfn⟩ : ∃ n, n = fs.length := ⟨_, rfl⟩
  obtain ⟨fc, hfc⟩ : ∃ n, n = cellsFs fs := ⟨_, rfl⟩
  obtain ⟨nn, hnn⟩ : ∃ n, n = ns.length := ⟨_, rfl⟩
  obtain ⟨nc, hnc⟩ : ∃ n, n = cellsNts ns := ⟨_, rfl⟩
  rw [← hfn, ← hfc, ← hnn, ← hnc]
  with_reducible refine runS hA hd hQ 200 ?hk ?_
  case hk => exact trivial
  conv => arg 9; cbv
  try simp only [OK]
  repeat' first | (with_reducible refine OKK.loop ?_) | (with_reducible refine OKK.again ?_) | ((with_reducible refine ⟨fun hbr => ?_, fun hbr => ?_⟩) <;> (try simp (disch := omega) only [hA, OK, emaU, Int.reduceToNat, s_bat, reduceCtorEq] at hbr) <;> (try (with_reducible exfalso; omega))) | ((with_reducible refine runK hA hd hQ 200 ?hk ?_); (case hk => exact trivial); (conv => arg 9; cbv); (try simp only [OK])) | ((with_reducible refine need_of ?hn ?_); (case hn => ((simp (disch := omega) only [hA, OK, emaU, Int.reduceToNat, s_bat]) <;> omega)))
  all_goals try ((with_reducible refine FinR.self ?_); refine FinR.f rfl (Up.nil []) ⟨fun h => absurd h (by decide), fun h => by have h1 := h.1; have h2 := h.2.1; simp (disch := omega) only [hA, OK, emaU, Int.reduceToNat, s_bat] at *; omega⟩)
  refine OKs.mask (msk 71 [1, 2, 22, 23, 24]) ?_
  refine OKs.loopN (fun n st => ∃ z : Int, st = ⟨mkT 71 [(1, .ptr 0 0), (2, .ptr 1 0), (22, .isl nn none nc), (23, .lit (.int .i64 (A.ofn nn))), (24, .lit (.int .i64 z))], [.blk [.isl fn none fc, .isl nn none nc], .blk [.lit (.int .i64 0), .lit (.slice none 0 0), .lit (.int .i64 0)]]⟩ ∧ n = (nn - z).toNat ∧ 0 ≤ z ∧ z ≤ nn ∧ ∀ j, j < z.toNat → ntP (ns.getD j nt0)) (fun n st hs' ih => ?_) ⟨0, rfl, rfl, by omega, by omega, fun j hj => absurd hj (by simp)⟩
  obtain ⟨z, rfl, hn, hz1, hz2, hz3⟩ := hs'
  obtain ⟨x, hx⟩ : ∃ x, x = ns.getD z.toNat nt0 := ⟨_, rfl⟩
  have hL : z < nn → List.take 2 (List.drop (A.idx 0 z 2) nc) = cellsNt x := fun hz => by rw [hA, s_idx, Nat.zero_add, hnc, hng z.toNat (by omega), ← hx]
  have hxm : z < nn → x ∈ ns := fun hz => by rw [hx, List.getD_eq_getElem?_getD, List.getElem?_eq_getElem (by omega)]; exact List.getElem_mem _
  have hxs : z < nn → x.1.size ≤ 140737488351232 ∧ x.2.size ≤ 140737488351232 := fun hz => hnt x (hxm hz)
  have hst := allP_step (p := fun j => ntP (ns.getD j nt0)) hz1 hz3
  simp only [← hx] at hst
  obtain ⟨key, text⟩ := x
  simp only [cellsNt] at hL hxs
  with_reducible refine runS hA hd hQ 1 ?hk ?_
  case hk => exact trivial
  conv => arg 9; cbv
  try simp only [OK]
  repeat' first | (with_reducible refine OKK.loop ?_) | (with_reducible refine OKK.again ?_) | (with_reducible refine OKK.rfS ?_) | ((with_reducible refine ⟨fun hbr => ?_, fun hbr => ?_⟩) <;> (try simp (disch := omega) only [hA, OK, emaU, Int.reduceToNat, s_bat, reduceCtorEq] at hbr) <;> (try (with_reducible exfalso; omega))) | ((with_reducible refine runK hA hd hQ 1 ?hk ?_); (case hk => exact trivial); (conv => arg 9; cbv); (try simp only [OK])) | ((with_reducible refine need_of ?hn ?_); (case hn => ((simp (disch := omega) only [hA, OK, emaU, Int.reduceToNat, s_bat]) <;> omega))) | ((refine ⟨_, _, ?l1, (hL (by omega)), rfl, ?_⟩); (case l1 => exact rfl))
  all_goals try ((with_reducible refine FinR.self ?_); refine FinR.f rfl (Up.nil []) ⟨fun h => absurd h (by decide), fun h => by have h1 := h.2.2.1 _ (hxm (by omega)); have h2 := h1.1; have h3 := h1.2; simp only at h2 h3; omega⟩)
  · refine OKs.mask (msk 71 [1, 2, 22, 23, 24]) (OKs.mv [0, 1] [] (by rw [hρ]; rfl) ⟨by decide, by simp [sizeH], by simp⟩ (ih _ _ ⟨_, rfl, rfl, ?_, ?_, ?_⟩ ?_))
    all_goals simp (disch := omega) only [hA, OK, emaU, Int.reduceToNat, s_bat]
    all_goals first
      | omega
      | exact hst ⟨by simp only; omega, by simp only; omega⟩
  have hnall : ∀ x ∈ ns, ntP x := all_ofG (by omega) hz3
  clear hst hxs hxm hx hL
  refine CallOK.of (goodF_of F58_ok) (Tri.mono (all_ok fn fc _) fun v hh hx => ?_)
  obtain ⟨e1, e2⟩ := hx
  subst e1; subst e2
  with_reducible refine runK hA hd hQ 1 ?hk ?_
  case hk => exact trivial
  conv => arg 9; cbv
  try simp only [OK]
  repeat' first | (with_reducible refine OKK.loop ?_) | (with_reducible refine OKK.again ?_) | (with_reducible refine OKK.rfS ?_) | ((with_reducible refine ⟨fun hbr => ?_, fun hbr => ?_⟩) <;> (try simp (disch := omega) only [hA, OK, emaU, Int.reduceToNat, s_bat, reduceCtorEq] at hbr) <;> (try (with_reducible exfalso; omega))) | ((with_reducible refine runK hA hd hQ 1 ?hk ?_); (case hk => exact trivial); (conv => arg 9; cbv); (try simp only [OK])) | ((with_reducible refine need_of ?hn ?_); (case hn => ((simp (disch := omega) only [hA, OK, emaU, Int.reduceToNat, s_bat]) <;> omega)))
  refine OKs.mask (msk 71 [1, 2, 5, 6, 45]) ?_
  have t := all1_ok fs fn nn fc nc LTc LAc LBc LTc_low (round_ok fn nn fc nc) hok hfs hfn hfc
  refine OKs.rf (gf := 80) (av := []) (bv := [.ptr 6 0, .ptr 5 0]) rfl (goodF_of F80_ok) t fun v h' hx => ?_
  obtain ⟨b, ⟨hmay, _, idm, _, rfl⟩ | ⟨hno, _, e, pn, pc, cnt, idm, he, rfl⟩⟩ := hx
  · obtain ⟨ie, hie⟩ : ∃ e, e = imE idm := ⟨_, rfl⟩
    obtain ⟨cz, hcz⟩ : ∃ e : Int, e = (nodesFs [] [] false fs).length := ⟨_, rfl⟩
    rw [← hie, ← hcz]
    obtain ⟨T, hT⟩ : ∃ e, e = LTc := ⟨_, rfl⟩
    refine ⟨_, _, _, _, _, _, rfl, by decide, ?_⟩
    show OKs Tryz.prog gs none I0 ρ0 w0 Q _ ⟨LTc, [.blk [.isl fn none fc, .isl nn none nc], .blk resOK, .blk [.lit (.int .i64 cz)], .emap ie, .blk [.mp 3], .blk [.isl fn none fc], .blk [.lit (.int .i64 65)], .dead, .blk [.yl 7], .blk [.fn (.func 81) [] [.ptr 8 0, .ptr 6 0, .ptr 9 0]]]⟩
    with_reducible refine runS hA hd hQ 200 ?hk ?_
    case hk => exact trivial
    conv => arg 9; cbv
    try simp only [OK]
    repeat' first | (with_reducible refine OKK.loop ?_) | (with_reducible refine OKK.again ?_) | ((with_reducible refine ⟨fun hbr => ?_, fun hbr => ?_⟩) <;> (try simp (disch := omega) only [hA, OK, emaU, Int.reduceToNat, s_bat, reduceCtorEq] at hbr) <;> (try (with_reducible exfalso; omega))) | ((with_reducible refine runK hA hd hQ 200 ?hk ?_); (case hk => exact trivial); (conv => arg 9; cbv); (try simp only [OK])) | ((with_reducible refine need_of ?hn ?_); (case hn => ((simp (disch := omega) only [hA, OK, emaU, Int.reduceToNat, s_bat]) <;> omega)))
    exact FinR.f rfl (Up.nil []) ⟨fun _ => ⟨by omega, by omega, hnall, hmay⟩, fun _ => rfl⟩
  · refine ⟨_, _, _, _, _, _, rfl, by decide, fun a w hs => (hQ _ (FinR.f rfl (Up.refl _) ⟨fun h => absurd h he, fun h => absurd h.2.2.2 hno⟩) a w hs).2⟩
theorem Up.agg2 {a b a' b' : EV} (h1 : Up a a') (h2 : Up b b') : Up (.agg [a, b]) (.agg [a', b']) := fun w I ρ cv hr => by
  cases hr with
  | agg _ c vs hl hc =>
    refine .agg _ _ _ (by simpa using hl) fun j e v he hv => ?_
    match j, he with
    | 0, he => simp at he; subst he; exact h1 _ _ _ _ (hc 0 _ v rfl hv)
    | 1, he => simp at he; subst he; exact h2 _ _ _ _ (hc 1 _ v rfl hv)
def mayF (f : Fld) : Prop := mayS [f] []
set_option maxHeartbeats 2000000 in
theorem checkField_ok (f : Fld) (hok : okF f) (h : EH) : Tri Tryz.prog gs 15 [.agg (cellsF f)] h fun v h' => IsF (mayF f) v ∧ h' = h := by
  have hc := check_ok [f] [] (by simp) (by simp) ⟨hok, trivial⟩ (by simp)
  simp only [cellsFs, cellsNts, List.append_nil, List.length_singleton, List.length_nil] at hc
  rw [cellsF_eq] at hc ⊢
  generalize cellsFs f.kids = kc, f.kids.length = kn, f.nm = nm, f.nul = nul, f.kind = k, f.width = w, f.id = i, f.idx = x at hc ⊢
  refine Tri.faultC rfl (Tri_of F15_ok fun I0 ρ0 w0 Q hρ hQ => ?_) h
  obtain ⟨A, hA⟩ : ∃ A, A = stdA := ⟨_, rfl⟩
  with_reducible refine runS hA hd hQ 200 ?hk ?_
  case hk => exact trivial
  conv => arg 9; cbv
  try simp only [OK]
  repeat' first | ((with_reducible refine ⟨fun hbr => ?_, fun hbr => ?_⟩) <;> (try simp (disch := omega) only [hA, OK, emaU, Int.reduceToNat, s_bat, reduceCtorEq] at hbr) <;> (try (with_reducible exfalso; omega))) | ((with_reducible refine runK hA hd hQ 200 ?hk ?_); (case hk => exact trivial); (conv => arg 9; cbv); (try simp only [OK])) | ((with_reducible refine need_of ?hn ?_); (case hn => ((simp (disch := omega) only [hA, OK, emaU, Int.reduceToNat, s_bat]) <;> omega)))
  refine CallOK.of (goodF_of F31_ok) (Tri.mono (Tri.freeze 3 rfl [2] ⟨by decide, by simp [sizeH], fun id hid => by simp at hid; subst hid; exact ⟨_, rfl, rfl⟩⟩ (Tri.args (hc _) (UpL.cons (Up.agg2 (Up.cap _ _ _) (Up.nil _)) UpL.nil))) fun v hh hx => ?_)
  obtain ⟨⟨e, at', pn, pc, hv, he⟩, hh'⟩ := hx
  subst hv
  have hh2 : hh = [.blk [.lit (.string nm), .lit (.bool nul), .lit (.int .i64 k), .lit (.int .i64 w), .lit (.int .i64 i), .lit (.int .i64 x), .isl kn none kc], .blk [.lit (.int .i64 0), .lit (.slice none 0 0), .lit (.int .i64 0)], .dead] := hh'
  subst hh2
  with_reducible refine runK hA hd hQ 1 ?hk ?_
  case hk => exact trivial
  conv => arg 9; cbv
  try simp only [OK]
  repeat' first | ((with_reducible refine ⟨fun hbr => ?_, fun hbr => ?_⟩) <;> (try simp (disch := omega) only [hA, OK, emaU, Int.reduceToNat, s_bat, reduceCtorEq] at hbr) <;> (try (with_reducible exfalso; omega))) | ((with_reducible refine runK hA hd hQ 200 ?hk ?_); (case hk => exact trivial); (conv => arg 9; cbv); (try simp only [OK])) | ((with_reducible refine need_of ?hn ?_); (case hn => ((simp (disch := omega) only [hA, OK, emaU, Int.reduceToNat, s_bat]) <;> omega)))
  all_goals exact FinR.f rfl (Up.refl _) he
end Go.Proofs.YtecephhhjhpcjaaGreatDoor.Stats
end
section
set_option linter.unusedVariables false
set_option linter.unusedSimpArgs false
namespace Go.Proofs.YtecephhhjhpcjaaGreatDoor.Stats
open Go Go.Proofs Go.Proofs.YtecephhhjhpcjaaGreatDoor Go.Proofs.YtecephhhjhpcjaaGreatDoor.Em
def rhoS : Go.Shelf.Ren := ⟨fun n => if n = 106 then 41 else if n = 213 then 63 else 88, fun n => if n = 3 then 3 else 9, fun n => n⟩
theorem laysCmp : Go.Proofs.Lays.n106 Tryz.prog rhoS where
  mixed := by kernel_rfl
  f106 := by kernel_rfl
  f213 := by kernel_rfl
  f265 := by kernel_rfl
  t3 := by kernel_rfl
  a3 := fun w => by kernel_rfl
  z3 := fun w => by kernel_rfl
  v3 := fun w => by kernel_rfl
  t9 := by kernel_rfl
  a9 := fun w => by kernel_rfl
  z9 := fun w => by kernel_rfl
  v9 := fun w => by kernel_rfl
def cmpB (a b : ByteArray) : Int := Lib.compareBytes a.data.toList b.data.toList
theorem strCompare_good : goodF Tryz.prog 41 = true := by kernel_rfl
theorem strCompare_ok (a b : ByteArray) (h : EH) : Tri Tryz.prog gs 41 [.lit (.string a), .lit (.string b)] h fun v h' => v = .lit (.int .i64 (cmpB a b)) ∧ h' = h := by
  intro I ρ w cargs hI hs ha hg
  have hc : cargs = #[.string a, .string b] := by
    match cargs, ha with
    | ⟨[x, y]⟩, ha =>
      obtain ⟨h1, h2, _⟩ := ha
      cases h1; cases h2; rfl
  subst hc
  refine (Any.strings_Compare laysCmp a b w).mono fun e w' ⟨h1, h2⟩ => ?_
  subst h2
  exact ⟨_, _, h, I, [], h1, ⟨rfl, rfl⟩, Imm.le.refl I, hI, by simpa using hs, .lit _ _, Keep.refl I w'⟩
end Go.Proofs.YtecephhhjhpcjaaGreatDoor.Stats
end
section
set_option linter.unusedVariables false
set_option linter.unusedSimpArgs false
-- emaX: s_bat
namespace Go.Proofs.YtecephhhjhpcjaaGreatDoor.Stats
open Go Go.Proofs.YtecephhhjhpcjaaGreatDoor Go.Proofs.YtecephhhjhpcjaaGreatDoor.Em
set_option maxHeartbeats 2000000 in
theorem checkFieldR_ok (f : Fld) (hok : okF f) (h : EH) : Tri Tryz.prog gs 43 [.agg (cellsF f)] h fun v h' => IsF (mayF f) v ∧ h' = h := by
  have hc := checkR_ok [f] [] (by simp) (by simp) ⟨hok, trivial⟩ (by simp)
  simp only [cellsFs, cellsNts, List.append_nil, List.length_singleton, List.length_nil] at hc
  rw [cellsF_eq] at hc ⊢
  generalize cellsFs f.kids = kc, f.kids.length = kn, f.nm = nm, f.nul = nul, f.kind = k, f.width = w, f.id = i, f.idx = x at hc ⊢
  refine Tri.faultC rfl (Tri_of F43_ok fun I0 ρ0 w0 Q hρ hQ => ?_) h
  obtain ⟨A, hA⟩ : ∃ A, A = stdA := ⟨_, rfl⟩
  with_reducible refine runS hA hd hQ 200 ?hk ?_
  case hk => exact trivial
  conv => arg 9; cbv
  try simp only [OK]
  repeat' first | ((with_reducible refine ⟨fun hbr => ?_, fun hbr => ?_⟩) <;> (try simp (disch := omega) only [hA, OK, emaU, Int.reduceToNat, s_bat, reduceCtorEq] at hbr) <;> (try (with_reducible exfalso; omega))) | ((with_reducible refine runK hA hd hQ 200 ?hk ?_); (case hk => exact trivial); (conv => arg 9; cbv); (try simp only [OK])) | ((with_reducible refine need_of ?hn ?_); (case hn => ((simp (disch := omega) only [hA, OK, emaU, Int.reduceToNat, s_bat]) <;> omega)))
  refine CallOK.of (goodF_of F28_ok) (Tri.mono (Tri.freeze 3 rfl [2] ⟨by decide, by simp [sizeH], fun id hid => by simp at hid; subst hid; exact ⟨_, rfl, rfl⟩⟩ (Tri.args (hc _) (UpL.cons (Up.agg2 (Up.cap _ _ _) (Up.nil _)) UpL.nil))) fun v hh hx => ?_)
  obtain ⟨⟨e, at', pn, pc, hv, he⟩, hh'⟩ := hx
  subst hv
  have hh2 : hh = [.blk [.lit (.string nm), .lit (.bool nul), .lit (.int .i64 k), .lit (.int .i64 w), .lit (.int .i64 i), .lit (.int .i64 x), .isl kn none kc], .blk [.lit (.int .i64 0), .lit (.slice none 0 0), .lit (.int .i64 0)], .dead] := hh'
  subst hh2
  with_reducible refine runK hA hd hQ 1 ?hk ?_
  case hk => exact trivial
  conv => arg 9; cbv
  try simp only [OK]
  repeat' first | ((with_reducible refine ⟨fun hbr => ?_, fun hbr => ?_⟩) <;> (try simp (disch := omega) only [hA, OK, emaU, Int.reduceToNat, s_bat, reduceCtorEq] at hbr) <;> (try (with_reducible exfalso; omega))) | ((with_reducible refine runK hA hd hQ 200 ?hk ?_); (case hk => exact trivial); (conv => arg 9; cbv); (try simp only [OK])) | ((with_reducible refine need_of ?hn ?_); (case hn => ((simp (disch := omega) only [hA, OK, emaU, Int.reduceToNat, s_bat]) <;> omega)))
  all_goals exact FinR.f rfl (Up.refl _) he
mutual
def allF : Fld → Prop
  | .mk nm nul k w i x kids => nameP nm ∧ fitsP k w i x kids.length ∧ nullsP nul k kids ∧ allFs kids
def allFs : List Fld → Prop
  | [] => True
  | f :: l => allF f ∧ allFs l
end
mutual
theorem allN_allF : ∀ (f : Fld) (path : List Nat) (ahead : List Fld) (inD : Bool) (prev : List Pl), path.length ≤ 64 → allN prev (nodesF path ahead inD f) → allF f
  | .mk nm nul k w i x kids, path, ahead, inD, prev, hp, h => by
    rw [nodesF, allN] at h
    obtain ⟨_, h2, h3⟩ := h
    obtain ⟨o1, o2, _, o4, o5, _⟩ := h2
    simp only [List.length_append, List.length_singleton] at o1
    rw [if_pos (by omega)] at h3
    exact ⟨o2, o4, o5, allN_allFs kids _ [] _ _ (by simp; omega) h3⟩
theorem allN_allFs : ∀ (l : List Fld) (path : List Nat) (ahead : List Fld) (inD : Bool) (prev : List Pl), path.length ≤ 64 → allN prev (nodesFs path ahead inD l) → allFs l
  | [], _, _, _, _, _, _ => trivial
  | f :: l, path, ahead, inD, prev, hp, h => by
    rw [nodesFs, allN_app] at h
    exact ⟨allN_allF f path ahead inD prev hp h.1, allN_allFs l path _ inD _ hp h.2⟩
end
inductive Core : Fld → Fld → Prop
  | here (f : Fld) : ¬ (f.kind = 19 ∨ f.kind = 20) → Core f f
  | down (f c g : Fld) : (f.kind = 19 ∨ f.kind = 20) → f.kids = [c] → Core c g → Core f g
theorem Core.det {f g g' : Fld} (h : Core f g) (h' : Core f g') : g = g' := by
  induction h with
  | here f hn => cases h' with
    | here => rfl
    | down _ _ _ hk => exact absurd hk hn
  | down f c g hk hc _ ih => cases h' with
    | here _ hn => exact absurd hk hn
    | down _ c' _ _ hc' hg => rw [hc] at hc'; cases hc'; exact ih hg
theorem kid_of {k w i x : Int} {kids : List Fld} (hf : fitsP k w i x kids.length) (hk : k = 19 ∨ k = 20) : ∃ c, kids = [c] := by
  obtain ⟨_, _, h⟩ := hf
  have : kids.length = 1 := by
    rcases hk with rfl | rfl <;> simp at h <;> omega
  match kids, this with
  | [c], _ => exact ⟨c, rfl⟩
theorem core_ex : ∀ (n : Nat) (f : Fld), SizeOf.sizeOf f ≤ n → allF f → ∃ g, Core f g ∧ allF g ∧ ¬ (g.kind = 19 ∨ g.kind = 20) := by
  intro n
  induction n with
  | zero => intro f h; cases f; simp at h
  | succ n ih =>
    rintro ⟨nm, nul, k, w, i, x, kids⟩ hs h
    by_cases hk : k = 19 ∨ k = 20
    · obtain ⟨c, rfl⟩ := kid_of h.2.1 hk
      obtain ⟨g, h1, h2, h3⟩ := ih c (by simp at hs; omega) h.2.2.2.1
      exact ⟨g, .down _ c g hk rfl h1, h2, h3⟩
    · exact ⟨_, .here _ hk, h, hk⟩
def PlainV (g : Fld) (v : EV) : Prop := ∃ (nm : ByteArray) (nul : Bool), v = .agg [.lit (.string nm), .lit (.bool nul), .lit (.int .i64 g.kind), .lit (.int .i64 g.width), .lit (.int .i64 g.id), .lit (.int .i64 g.idx), .isl g.kids.length none (cellsFs g.kids)]
theorem PlainV.cl {g : Fld} {v : EV} (h : PlainV g v) : clE v = true := by obtain ⟨a, b, rfl⟩ := h; rfl
set_option maxHeartbeats 4000000 in
theorem plain_ok (f g : Fld) (hall : allF f) (hcore : Core f g) (h : EH) : Tri Tryz.prog gs 17 [.agg (cellsF f)] h fun v h' => PlainV g v ∧ h' = h := by
  have t : Tri Tryz.prog gs 17 [.agg (cellsF f)] [] fun v _ => PlainV g v := by
    refine Tri_of F17_ok fun I0 ρ0 w0 Q hρ hQ => ?_
    obtain ⟨A, hA⟩ : ∃ A, A = stdA := ⟨_, rfl⟩
    rw [cellsF_eq]
    have hcl := f
    obtain ⟨fk, hfk⟩ : ∃ c, c = cellsFs f.kids := ⟨_, rfl⟩
    obtain ⟨fn, hfn⟩ : ∃ c, c = f.kids.length := ⟨_, rfl⟩
    rw [← hfk, ← hfn]
    obtain ⟨fm, hfm⟩ : ∃ c, c = f.nm := ⟨_, rfl⟩
    obtain ⟨fu, hfu⟩ : ∃ c, c = f.nul := ⟨_, rfl⟩
    obtain ⟨k0, hk0⟩ : ∃ c, c = f.kind := ⟨_, rfl⟩
    obtain ⟨w0', hw0⟩ : ∃ c, c = f.width := ⟨_, rfl⟩
    obtain ⟨i0, hi0⟩ : ∃ c, c = f.id := ⟨_, rfl⟩
    obtain ⟨x0, hx0⟩ : ∃ c, c = f.idx := ⟨_, rfl⟩
    rw [← hfm, ← hfu, ← hk0, ← hw0, ← hi0, ← hx0]
    with_reducible refine runS hA hd hQ 200 ?hk ?_
    case hk => exact trivial
    conv => arg 9; cbv
    try simp only [OK]
    repeat' first | (with_reducible refine OKK.loop ?_) | (with_reducible refine OKK.again ?_) | ((with_reducible refine ⟨fun hbr => ?_, fun hbr => ?_⟩) <;> (try simp (disch := omega) only [hA, OK, emaU, Int.reduceToNat, s_bat, reduceCtorEq] at hbr) <;> (try (with_reducible exfalso; omega))) | ((with_reducible refine runK hA hd hQ 200 ?hk ?_); (case hk => exact trivial); (conv => arg 9; cbv); (try simp only [OK])) | ((with_reducible refine need_of ?hn ?_); (case hn => ((simp (disch := omega) only [hA, OK, emaU, Int.reduceToNat, s_bat]) <;> omega)))
    refine OKs.mask (msk 31 [1, 2]) ?_
    refine OKs.loopN (fun n st => ∃ (c : Fld) (nm : ByteArray) (nul : Bool) (k w i x : Int) (kn : Nat) (kc : List EV), st = ⟨mkT 31 [(1, .ptr 0 0), (2, .ptr 1 0)], [.blk [.lit (.string nm), .lit (.bool nul), .lit (.int .i64 k), .lit (.int .i64 w), .lit (.int .i64 i), .lit (.int .i64 x), .isl kn none kc], .blk [.lit (.string ⟨#[]⟩), .lit (.bool false), .lit (.int .i64 0), .lit (.int .i64 0), .lit (.int .i64 0), .lit (.int .i64 0), .lit (.slice none 0 0)]]⟩ ∧ n = SizeOf.sizeOf c ∧ Core c g ∧ allF c ∧ k = c.kind ∧ w = c.width ∧ i = c.id ∧ x = c.idx ∧ kn = c.kids.length ∧ kc = cellsFs c.kids) (fun n st hs' ih => ?_)
      ⟨f, _, _, _, _, _, _, _, _, rfl, rfl, hcore, hall, hk0, hw0, hi0, hx0, hfn, hfk⟩
    obtain ⟨c, nm, nul, k, w, i, x, kn, kc, rfl, hnn, hco, hal, hk, hw, hi, hx, hkn, hkc⟩ := hs'
    cases hco with
    | here _ hn =>
      rw [← hk] at hn
      with_reducible refine runS hA hd hQ 200 ?hk ?_
      case hk => exact trivial
      conv => arg 9; cbv
      try simp only [OK]
      repeat' first | (with_reducible refine OKK.loop ?_) | (with_reducible refine OKK.again ?_) | ((with_reducible refine ⟨fun hbr => ?_, fun hbr => ?_⟩) <;> (try simp (disch := omega) only [hA, OK, emaU, Int.reduceToNat, s_bat, reduceCtorEq] at hbr) <;> (try (with_reducible exfalso; omega))) | ((with_reducible refine runK hA hd hQ 200 ?hk ?_); (case hk => exact trivial); (conv => arg 9; cbv); (try simp only [OK])) | ((with_reducible refine need_of ?hn ?_); (case hn => ((simp (disch := omega) only [hA, OK, emaU, Int.reduceToNat, s_bat]) <;> omega)))
      exact FinR.intro rfl ⟨nm, nul, by rw [← hk, ← hw, ← hi, ← hx, ← hkn, ← hkc]⟩
    | down _ d _ h19 hkid hcd =>
      have hsz : SizeOf.sizeOf d < SizeOf.sizeOf c := by
        obtain ⟨a1, a2, a3, a4, a5, a6, a7⟩ := c
        simp only [kids_mk] at hkid
        subst hkid
        simp
        omega
      have hald : allF d := by
        obtain ⟨a1, a2, a3, a4, a5, a6, a7⟩ := c
        simp only [kids_mk] at hkid
        subst hkid
        exact hal.2.2.2.1
      rw [← hk] at h19
      have hkn1 : kn = 1 := by rw [hkn, hkid]; rfl
      have hL : List.take 7 (List.drop (A.idx 0 0 7) kc) = cellsF d := by rw [hA, hkc, hkid]; simp only [s_idx, Int.reduceToNat, Nat.zero_mul, Nat.zero_add, List.drop_zero, cellsFs, List.append_nil]; rw [List.take_of_length_le (by rw [cellsF_length]; omega)]
      rw [cellsF_eq] at hL
      obtain ⟨dn, hdn⟩ : ∃ c, c = d.kids.length := ⟨_, rfl⟩
      obtain ⟨dc, hdc⟩ : ∃ c, c = cellsFs d.kids := ⟨_, rfl⟩
      obtain ⟨dm, hdm⟩ : ∃ c, c = d.nm := ⟨_, rfl⟩
      obtain ⟨du, hdu⟩ : ∃ c, c = d.nul := ⟨_, rfl⟩
      obtain ⟨dk, hdk⟩ : ∃ c, c = d.kind := ⟨_, rfl⟩
      obtain ⟨dw, hdw⟩ : ∃ c, c = d.width := ⟨_, rfl⟩
      obtain ⟨di, hdi⟩ : ∃ c, c = d.id := ⟨_, rfl⟩
      obtain ⟨dx, hdx⟩ : ∃ c, c = d.idx := ⟨_, rfl⟩
      rw [← hdn, ← hdc, ← hdm, ← hdu, ← hdk, ← hdw, ← hdi, ← hdx] at hL
      with_reducible refine runS hA hd hQ 200 ?hk ?_
      case hk => exact trivial
      conv => arg 9; cbv
      try simp only [OK]
      repeat' first | (with_reducible refine OKK.loop ?_) | (with_reducible refine OKK.again ?_) | ((with_reducible refine ⟨fun hbr => ?_, fun hbr => ?_⟩) <;> (try simp (disch := omega) only [hA, OK, emaU, Int.reduceToNat, s_bat, reduceCtorEq] at hbr) <;> (try (with_reducible exfalso; omega))) | ((with_reducible refine runK hA hd hQ 200 ?hk ?_); (case hk => exact trivial); (conv => arg 9; cbv); (try simp only [OK])) | ((with_reducible refine need_of ?hn ?_); (case hn => ((simp (disch := omega) only [hA, OK, emaU, Int.reduceToNat, s_bat]) <;> omega))) | ((refine ⟨_, _, ?l1, hL, rfl, ?_⟩); (case l1 => exact rfl))
      all_goals exact OKs.mask (msk 31 [1, 2]) (OKs.mv [0, 1] [] (by rw [hρ]; rfl) ⟨by decide, by simp [sizeH], by simp⟩ (ih _ _ ⟨d, _, _, dk, dw, di, dx, dn, dc, rfl, rfl, hcd, hald, hdk, hdw, hdi, hdx, hdn, hdc⟩ (by rw [hnn]; exact hsz)))
  exact Tri.litC (fun v hv => hv.cl) (by rw [cellsF_eq]; rfl) t h
set_option maxHeartbeats 4000000 in
theorem plainR_ok (f g : Fld) (hall : allF f) (hcore : Core f g) (h : EH) : Tri Tryz.prog gs 47 [.agg (cellsF f)] h fun v h' => PlainV g v ∧ h' = h := by
  have t : Tri Tryz.prog gs 47 [.agg (cellsF f)] [] fun v _ => PlainV g v := by
    refine Tri_of F47_ok fun I0 ρ0 w0 Q hρ hQ => ?_
    obtain ⟨A, hA⟩ : ∃ A, A = stdA := ⟨_, rfl⟩
    rw [cellsF_eq]
    have hcl := f
    obtain ⟨fk, hfk⟩ : ∃ c, c = cellsFs f.kids := ⟨_, rfl⟩
    obtain ⟨fn, hfn⟩ : ∃ c, c = f.kids.length := ⟨_, rfl⟩
    rw [← hfk, ← hfn]
    obtain ⟨fm, hfm⟩ : ∃ c, c = f.nm := ⟨_, rfl⟩
    obtain ⟨fu, hfu⟩ : ∃ c, c = f.nul := ⟨_, rfl⟩
    obtain ⟨k0, hk0⟩ : ∃ c, c = f.kind := ⟨_, rfl⟩
    obtain ⟨w0', hw0⟩ : ∃ c, c = f.width := ⟨_, rfl⟩
    obtain ⟨i0, hi0⟩ : ∃ c, c = f.id := ⟨_, rfl⟩
    obtain ⟨x0, hx0⟩ : ∃ c, c = f.idx := ⟨_, rfl⟩
    rw [← hfm, ← hfu, ← hk0, ← hw0, ← hi0, ← hx0]
    with_reducible refine runS hA hd hQ 200 ?hk ?_
    case hk => exact trivial
    conv => arg 9; cbv
    try simp only [OK]
    repeat' first | (with_reducible refine OKK.loop ?_) | (with_reducible refine OKK.again ?_) | ((with_reducible refine ⟨fun hbr => ?_, fun hbr => ?_⟩) <;> (try simp (disch := omega) only [hA, OK, emaU, Int.reduceToNat, s_bat, reduceCtorEq] at hbr) <;> (try (with_reducible exfalso; omega))) | ((with_reducible refine runK hA hd hQ 200 ?hk ?_); (case hk => exact trivial); (conv => arg 9; cbv); (try simp only [OK])) | ((with_reducible refine need_of ?hn ?_); (case hn => ((simp (disch := omega) only [hA, OK, emaU, Int.reduceToNat, s_bat]) <;> omega)))
    refine OKs.mask (msk 43 [1, 2]) ?_
    refine OKs.loopN (fun n st => ∃ (c : Fld) (nm : ByteArray) (nul : Bool) (k w i x : Int) (kn : Nat) (kc : List EV), st = ⟨mkT 43 [(1, .ptr 0 0), (2, .ptr 1 0)], [.blk [.lit (.string nm), .lit (.bool nul), .lit (.int .i64 k), .lit (.int .i64 w), .lit (.int .i64 i), .lit (.int .i64 x), .isl kn none kc], .blk [.lit (.string ⟨#[]⟩), .lit (.bool false), .lit (.int .i64 0), .lit (.int .i64 0), .lit (.int .i64 0), .lit (.int .i64 0), .lit (.slice none 0 0)]]⟩ ∧ n = SizeOf.sizeOf c ∧ Core c g ∧ allF c ∧ k = c.kind ∧ w = c.width ∧ i = c.id ∧ x = c.idx ∧ kn = c.kids.length ∧ kc = cellsFs c.kids) (fun n st hs' ih => ?_)
      ⟨f, _, _, _, _, _, _, _, _, rfl, rfl, hcore, hall, hk0, hw0, hi0, hx0, hfn, hfk⟩
    obtain ⟨c, nm, nul, k, w, i, x, kn, kc, rfl, hnn, hco, hal, hk, hw, hi, hx, hkn, hkc⟩ := hs'
    cases hco with
    | here _ hn =>
      rw [← hk] at hn
      with_reducible refine runS hA hd hQ 200 ?hk ?_
      case hk => exact trivial
      conv => arg 9; cbv
      try simp only [OK]
      repeat' first | (with_reducible refine OKK.loop ?_) | (with_reducible refine OKK.again ?_) | ((with_reducible refine ⟨fun hbr => ?_, fun hbr => ?_⟩) <;> (try simp (disch := omega) only [hA, OK, emaU, Int.reduceToNat, s_bat, reduceCtorEq] at hbr) <;> (try (with_reducible exfalso; omega))) | ((with_reducible refine runK hA hd hQ 200 ?hk ?_); (case hk => exact trivial); (conv => arg 9; cbv); (try simp only [OK])) | ((with_reducible refine need_of ?hn ?_); (case hn => ((simp (disch := omega) only [hA, OK, emaU, Int.reduceToNat, s_bat]) <;> omega)))
      exact FinR.intro rfl ⟨nm, nul, by rw [← hk, ← hw, ← hi, ← hx, ← hkn, ← hkc]⟩
    | down _ d _ h19 hkid hcd =>
      have hsz : SizeOf.sizeOf d < SizeOf.sizeOf c := by
        obtain ⟨a1, a2, a3, a4, a5, a6, a7⟩ := c
        simp only [kids_mk] at hkid
        subst hkid
        simp
        omega
      have hald : allF d := by
        obtain ⟨a1, a2, a3, a4, a5, a6, a7⟩ := c
        simp only [kids_mk] at hkid
        subst hkid
        exact hal.2.2.2.1
      rw [← hk] at h19
      have hkn1 : kn = 1 := by rw [hkn, hkid]; rfl
      have hL : List.take 7 (List.drop (A.idx 0 0 7) kc) = cellsF d := by rw [hA, hkc, hkid]; simp only [s_idx, Int.reduceToNat, Nat.zero_mul, Nat.zero_add, List.drop_zero, cellsFs, List.append_nil]; rw [List.take_of_length_le (by rw [cellsF_length]; omega)]
      rw [cellsF_eq] at hL
      obtain ⟨dn, hdn⟩ : ∃ c, c = d.kids.length := ⟨_, rfl⟩
      obtain ⟨dc, hdc⟩ : ∃ c, c = cellsFs d.kids := ⟨_, rfl⟩
      obtain ⟨dm, hdm⟩ : ∃ c, c = d.nm := ⟨_, rfl⟩
      obtain ⟨du, hdu⟩ : ∃ c, c = d.nul := ⟨_, rfl⟩
      obtain ⟨dk, hdk⟩ : ∃ c, c = d.kind := ⟨_, rfl⟩
      obtain ⟨dw, hdw⟩ : ∃ c, c = d.width := ⟨_, rfl⟩
      obtain ⟨di, hdi⟩ : ∃ c, c = d.id := ⟨_, rfl⟩
      obtain ⟨dx, hdx⟩ : ∃ c, c = d.idx := ⟨_, rfl⟩
      rw [← hdn, ← hdc, ← hdm, ← hdu, ← hdk, ← hdw, ← hdi, ← hdx] at hL
      with_reducible refine runS hA hd hQ 200 ?hk ?_
      case hk => exact trivial
      conv => arg 9; cbv
      try simp only [OK]
      repeat' first | (with_reducible refine OKK.loop ?_) | (with_reducible refine OKK.again ?_) | ((with_reducible refine ⟨fun hbr => ?_, fun hbr => ?_⟩) <;> (try simp (disch := omega) only [hA, OK, emaU, Int.reduceToNat, s_bat, reduceCtorEq] at hbr) <;> (try (with_reducible exfalso; omega))) | ((with_reducible refine runK hA hd hQ 200 ?hk ?_); (case hk => exact trivial); (conv => arg 9; cbv); (try simp only [OK])) | ((with_reducible refine need_of ?hn ?_); (case hn => ((simp (disch := omega) only [hA, OK, emaU, Int.reduceToNat, s_bat]) <;> omega))) | ((refine ⟨_, _, ?l1, hL, rfl, ?_⟩); (case l1 => exact rfl))
      all_goals exact OKs.mask (msk 43 [1, 2]) (OKs.mv [0, 1] [] (by rw [hρ]; rfl) ⟨by decide, by simp [sizeH], by simp⟩ (ih _ _ ⟨d, _, _, dk, dw, di, dx, dn, dc, rfl, rfl, hcd, hald, hdk, hdw, hdi, hdx, hdn, hdc⟩ (by rw [hnn]; exact hsz)))
  exact Tri.litC (fun v hv => hv.cl) (by rw [cellsF_eq]; rfl) t h
end Go.Proofs.YtecephhhjhpcjaaGreatDoor.Stats
end
section
set_option linter.unusedVariables false
set_option linter.unusedSimpArgs false
-- emaX: s_bat
namespace Go.Proofs.YtecephhhjhpcjaaGreatDoor.Stats
open Go Go.Proofs.YtecephhhjhpcjaaGreatDoor Go.Proofs.YtecephhhjhpcjaaGreatDoor.Em
def sgn (a b : Int) : Int := if a < b then -1 else if b < a then 1 else 0
theorem Tri.valC {P : Program} {G : List (List EV)} {f : FuncId} {args : List EV} {V : EV} (hV : clE V = true) (ha : clL args = true) (t : Tri P G f args [] fun v _ => v = V) (h : EH) : Tri P G f args h fun v h' => v = V ∧ h' = h :=
  Tri.litC (φ := fun v => v = V) (fun v hv => by rw [hv]; exact hV) ha t h
set_option maxHeartbeats 1000000 in
theorem nan64_ok (a : Int) (h : EH) : Tri Tryz.prog gs 114 [.lit (.int .i64 a)] h fun v h' => IsP False v ∧ h' = h := by
  refine Tri.boolC rfl (Tri_of F114_ok fun I0 ρ0 w0 Q hρ hQ => ?_) h
  obtain ⟨A, hA⟩ : ∃ A, A = stdA := ⟨_, rfl⟩
  with_reducible refine runS hA hd hQ 200 ?hk ?_
  case hk => exact trivial
  conv => arg 9; cbv
  try simp only [OK]
  repeat' first | ((with_reducible refine ⟨fun hbr => ?_, fun hbr => ?_⟩) <;> (try simp (disch := omega) only [hA, OK, emaU, Int.reduceToNat, s_bat, reduceCtorEq] at hbr) <;> (try (with_reducible exfalso; omega))) | ((with_reducible refine runK hA hd hQ 200 ?hk ?_); (case hk => exact trivial); (conv => arg 9; cbv); (try simp only [OK])) | ((with_reducible refine need_of ?hn ?_); (case hn => ((simp (disch := omega) only [hA, OK, emaU, Int.reduceToNat, s_bat]) <;> omega)))
  all_goals (try (with_reducible refine FinR.self ?_; first | refine FinR.bl rfl ?_ | refine FinR.bs rfl ?_ | refine FinR.blh rfl ?_ rfl | refine FinR.bsh rfl ?_ rfl))
  all_goals (try simp (disch := omega) only [hA, OK, emaU, Int.reduceToNat, s_bat, Bool.false_eq_true, true_iff, false_iff, eq_self, iff_true, iff_false])
  all_goals simp
set_option maxHeartbeats 1000000 in
theorem cmp64_ok (a b : Int) (h : EH) : Tri Tryz.prog gs 92 [.lit (.int .i64 a), .lit (.int .i64 b)] h fun v h' => IsN .i64 (fun n => n = sgn a b) v ∧ h' = h := by
  refine Tri.intC rfl (Tri_of F92_ok fun I0 ρ0 w0 Q hρ hQ => ?_) h
  obtain ⟨A, hA⟩ : ∃ A, A = stdA := ⟨_, rfl⟩
  with_reducible refine runS hA hd hQ 200 ?hk ?_
  case hk => exact trivial
  conv => arg 9; cbv
  try simp only [OK]
  repeat' first | ((with_reducible refine ⟨fun hbr => ?_, fun hbr => ?_⟩) <;> (try simp (disch := omega) only [hA, OK, emaU, Int.reduceToNat, s_bat, reduceCtorEq] at hbr) <;> (try (with_reducible exfalso; omega))) | ((with_reducible refine runK hA hd hQ 200 ?hk ?_); (case hk => exact trivial); (conv => arg 9; cbv); (try simp only [OK])) | ((with_reducible refine need_of ?hn ?_); (case hn => ((simp (disch := omega) only [hA, OK, emaU, Int.reduceToNat, s_bat]) <;> omega))) | (refine CallOK.of (goodF_of F114_ok) (Tri.mono (nan64_ok _ _) fun v hh hx => ?_); (obtain ⟨⟨b, hv, hb⟩, he⟩ := hx; subst hv; subst he; cases b <;> simp (disch := omega) only [hA, OK, emaU, Int.reduceToNat, s_bat, Bool.false_eq_true, true_iff, false_iff, eq_self, reduceCtorEq] at hb) <;> (try (with_reducible exfalso; omega)))
  all_goals (try (with_reducible refine FinR.self ?_; first | refine FinR.n rfl ?_ | refine FinR.nh rfl ?_ rfl))
  all_goals (try simp (disch := omega) only [hA, OK, emaU, Int.reduceToNat, s_bat, Bool.false_eq_true, true_iff, false_iff, eq_self, iff_true, iff_false])
  all_goals unfold sgn
  all_goals (repeat' split)
  all_goals omega
set_option maxHeartbeats 1000000 in
theorem nanU_ok (a : Int) (h : EH) : Tri Tryz.prog gs 113 [.lit (.int .u64 a)] h fun v h' => IsP False v ∧ h' = h := by
  refine Tri.boolC rfl (Tri_of F113_ok fun I0 ρ0 w0 Q hρ hQ => ?_) h
  obtain ⟨A, hA⟩ : ∃ A, A = stdA := ⟨_, rfl⟩
  with_reducible refine runS hA hd hQ 200 ?hk ?_
  case hk => exact trivial
  conv => arg 9; cbv
  try simp only [OK]
  repeat' first | ((with_reducible refine ⟨fun hbr => ?_, fun hbr => ?_⟩) <;> (try simp (disch := omega) only [hA, OK, emaU, Int.reduceToNat, s_bat, reduceCtorEq] at hbr) <;> (try (with_reducible exfalso; omega))) | ((with_reducible refine runK hA hd hQ 200 ?hk ?_); (case hk => exact trivial); (conv => arg 9; cbv); (try simp only [OK])) | ((with_reducible refine need_of ?hn ?_); (case hn => ((simp (disch := omega) only [hA, OK, emaU, Int.reduceToNat, s_bat]) <;> omega)))
  all_goals (try (with_reducible refine FinR.self ?_; first | refine FinR.bl rfl ?_ | refine FinR.bs rfl ?_ | refine FinR.blh rfl ?_ rfl | refine FinR.bsh rfl ?_ rfl))
  all_goals (try simp (disch := omega) only [hA, OK, emaU, Int.reduceToNat, s_bat, Bool.false_eq_true, true_iff, false_iff, eq_self, iff_true, iff_false])
  all_goals simp
set_option maxHeartbeats 1000000 in
theorem cmpU_ok (a b : Int) (h : EH) : Tri Tryz.prog gs 90 [.lit (.int .u64 a), .lit (.int .u64 b)] h fun v h' => IsN .i64 (fun n => n = sgn a b) v ∧ h' = h := by
  refine Tri.intC rfl (Tri_of F90_ok fun I0 ρ0 w0 Q hρ hQ => ?_) h
  obtain ⟨A, hA⟩ : ∃ A, A = stdA := ⟨_, rfl⟩
  with_reducible refine runS hA hd hQ 200 ?hk ?_
  case hk => exact trivial
  conv => arg 9; cbv
  try simp only [OK]
  repeat' first | ((with_reducible refine ⟨fun hbr => ?_, fun hbr => ?_⟩) <;> (try simp (disch := omega) only [hA, OK, emaU, Int.reduceToNat, s_bat, reduceCtorEq] at hbr) <;> (try (with_reducible exfalso; omega))) | ((with_reducible refine runK hA hd hQ 200 ?hk ?_); (case hk => exact trivial); (conv => arg 9; cbv); (try simp only [OK])) | ((with_reducible refine need_of ?hn ?_); (case hn => ((simp (disch := omega) only [hA, OK, emaU, Int.reduceToNat, s_bat]) <;> omega))) | (refine CallOK.of (goodF_of F113_ok) (Tri.mono (nanU_ok _ _) fun v hh hx => ?_); (obtain ⟨⟨b, hv, hb⟩, he⟩ := hx; subst hv; subst he; cases b <;> simp (disch := omega) only [hA, OK, emaU, Int.reduceToNat, s_bat, Bool.false_eq_true, true_iff, false_iff, eq_self, reduceCtorEq] at hb) <;> (try (with_reducible exfalso; omega)))
  all_goals (try (with_reducible refine FinR.self ?_; first | refine FinR.n rfl ?_ | refine FinR.nh rfl ?_ rfl))
  all_goals (try simp (disch := omega) only [hA, OK, emaU, Int.reduceToNat, s_bat, Bool.false_eq_true, true_iff, false_iff, eq_self, iff_true, iff_false])
  all_goals unfold sgn
  all_goals (repeat' split)
  all_goals omega
theorem s_wrU (n : Int) (h1 : 0 ≤ n) (h2 : n ≤ 18446744073709551615) : stdA.wr .u64 n = n := by
  show IntKind.u64.wrap n = n
  simp only [IntKind.wrap, IntKind.signed, IntKind.bits]
  simp
  omega
theorem or_top (n : Int) (h1 : 0 ≤ n) (h2 : n ≤ 9223372036854775807) : stdA.ib .or .u64 (stdA.wr .u64 n) 9223372036854775808 = n + 9223372036854775808 := by
  rw [s_wrU n h1 (by omega)]
  show IntKind.u64.wrap _ = _
  obtain ⟨m, rfl⟩ : ∃ m : Nat, n = m := ⟨n.toNat, by omega⟩
  have e : (BitVec.ofInt IntKind.u64.bits (m : Int) ||| BitVec.ofInt IntKind.u64.bits 9223372036854775808).toNat = m + 9223372036854775808 := by
    have h3 : 9223372036854775808 ||| m = 9223372036854775808 + m := by
      have := Nat.two_pow_add_eq_or_of_lt (i := 63) (b := m) (by omega) 1
      rw [show 2 ^ 63 * 1 = 9223372036854775808 by decide] at this
      exact this.symm
    rw [BitVec.toNat_or]
    have e1 : (BitVec.ofInt IntKind.u64.bits (m : Int)).toNat = m := by
      show (BitVec.ofInt 64 (m : Int)).toNat = m
      rw [BitVec.ofInt_natCast, BitVec.toNat_ofNat]
      exact Nat.mod_eq_of_lt (by omega)
    have e2 : (BitVec.ofInt IntKind.u64.bits 9223372036854775808).toNat = 9223372036854775808 := by decide
    rw [e1, e2, Nat.or_comm, h3]
    omega
  rw [e]
  have := s_wrU ((m + 9223372036854775808 : Nat) : Int) (by omega) (by omega)
  rw [show IntKind.u64.wrap ((m + 9223372036854775808 : Nat) : Int) = stdA.wr .u64 ((m + 9223372036854775808 : Nat) : Int) from rfl, this]
  simp
theorem add_top (n : Int) (h1 : 0 ≤ n) (h2 : n ≤ 9223372036854775807) : stdA.ib .add .u64 (stdA.wr .u64 n) 9223372036854775808 = n + 9223372036854775808 := by
  rw [s_wrU n h1 (by omega)]
  exact s_wrU _ (by omega) (by omega)
def placeI (n : Int) : Int := if n < 0 then stdA.xr .u64 (stdA.wr .u64 n) else n + 9223372036854775808
set_option maxHeartbeats 1000000 in
theorem total_ok (n : Int) (hn : i64r n) (h : EH) : Tri Tryz.prog gs 91 [.lit (.int .i64 n)] h fun v h' => IsN .u64 (fun m => m = placeI n) v ∧ h' = h := by
  refine Tri.intC rfl (Tri_of F91_ok fun I0 ρ0 w0 Q hρ hQ => ?_) h
  obtain ⟨A, hA⟩ : ∃ A, A = stdA := ⟨_, rfl⟩
  with_reducible refine runS hA hd hQ 200 ?hk ?_
  case hk => exact trivial
  conv => arg 9; cbv
  try simp only [OK]
  repeat' first | ((with_reducible refine ⟨fun hbr => ?_, fun hbr => ?_⟩) <;> (try simp (disch := omega) only [hA, OK, emaU, Int.reduceToNat, s_bat, reduceCtorEq] at hbr) <;> (try (with_reducible exfalso; omega))) | ((with_reducible refine runK hA hd hQ 200 ?hk ?_); (case hk => exact trivial); (conv => arg 9; cbv); (try simp only [OK])) | ((with_reducible refine need_of ?hn ?_); (case hn => ((simp (disch := omega) only [hA, OK, emaU, Int.reduceToNat, s_bat]) <;> omega)))
  · refine FinR.n rfl ?_
    rw [placeI, if_pos hbr, hA]
  · refine FinR.n rfl ?_
    rw [placeI, if_neg hbr, hA]
    exact or_top n (by omega) hn.2
set_option maxHeartbeats 1000000 in
theorem placeR_ok (n : Int) (hn : i64r n) (h : EH) : Tri Tryz.prog gs 69 [.lit (.int .i64 n)] h fun v h' => IsN .u64 (fun m => m = placeI n) v ∧ h' = h := by
  refine Tri.intC rfl (Tri_of F69_ok fun I0 ρ0 w0 Q hρ hQ => ?_) h
  obtain ⟨A, hA⟩ : ∃ A, A = stdA := ⟨_, rfl⟩
  with_reducible refine runS hA hd hQ 200 ?hk ?_
  case hk => exact trivial
  conv => arg 9; cbv
  try simp only [OK]
  repeat' first | ((with_reducible refine ⟨fun hbr => ?_, fun hbr => ?_⟩) <;> (try simp (disch := omega) only [hA, OK, emaU, Int.reduceToNat, s_bat, reduceCtorEq] at hbr) <;> (try (with_reducible exfalso; omega))) | ((with_reducible refine runK hA hd hQ 200 ?hk ?_); (case hk => exact trivial); (conv => arg 9; cbv); (try simp only [OK])) | ((with_reducible refine need_of ?hn ?_); (case hn => ((simp (disch := omega) only [hA, OK, emaU, Int.reduceToNat, s_bat]) <;> omega)))
  · refine FinR.n rfl ?_
    rw [placeI, if_pos hbr, hA]
  · refine FinR.n rfl ?_
    rw [placeI, if_neg hbr, hA]
    exact add_top n (by omega) hn.2
set_option maxHeartbeats 1000000 in
theorem sign_ok (a b : Bool) (h : EH) : Tri Tryz.prog gs 68 [.sb a, .sb b] h fun v h' => IsN .i64 (fun m => m = if a then -1 else if b then 1 else 0) v ∧ h' = h := by
  refine Tri.intC rfl (Tri_of F68_ok fun I0 ρ0 w0 Q hρ hQ => ?_) h
  obtain ⟨A, hA⟩ : ∃ A, A = stdA := ⟨_, rfl⟩
  with_reducible refine runS hA hd hQ 200 ?hk ?_
  case hk => exact trivial
  conv => arg 9; cbv
  try simp only [OK]
  repeat' first | ((with_reducible refine ⟨fun hbr => ?_, fun hbr => ?_⟩) <;> (try simp (disch := omega) only [hA, OK, emaU, Int.reduceToNat, s_bat, reduceCtorEq] at hbr) <;> (try (with_reducible exfalso; omega))) | ((with_reducible refine runK hA hd hQ 200 ?hk ?_); (case hk => exact trivial); (conv => arg 9; cbv); (try simp only [OK])) | ((with_reducible refine need_of ?hn ?_); (case hn => ((simp (disch := omega) only [hA, OK, emaU, Int.reduceToNat, s_bat]) <;> omega)))
  all_goals (try (with_reducible refine FinR.self ?_; first | refine FinR.n rfl ?_ | refine FinR.nh rfl ?_ rfl))
  all_goals (try simp (disch := omega) only [hA, OK, emaU, Int.reduceToNat, s_bat, Bool.false_eq_true, true_iff, false_iff, eq_self, iff_true, iff_false])
  all_goals (cases a <;> cases b <;> simp_all)
set_option maxHeartbeats 1000000 in
theorem whole_ok (k : Int) (h : EH) : Tri Tryz.prog gs 111 [.lit (.int .i64 k)] h fun v h' => IsP (3 ≤ k ∧ k ≤ 10) v ∧ h' = h := by
  refine Tri.boolC rfl (Tri_of F111_ok fun I0 ρ0 w0 Q hρ hQ => ?_) h
  obtain ⟨A, hA⟩ : ∃ A, A = stdA := ⟨_, rfl⟩
  with_reducible refine runS hA hd hQ 200 ?hk ?_
  case hk => exact trivial
  conv => arg 9; cbv
  try simp only [OK]
  repeat' first | ((with_reducible refine ⟨fun hbr => ?_, fun hbr => ?_⟩) <;> (try simp (disch := omega) only [hA, OK, emaU, Int.reduceToNat, s_bat, reduceCtorEq] at hbr) <;> (try (with_reducible exfalso; omega))) | ((with_reducible refine runK hA hd hQ 200 ?hk ?_); (case hk => exact trivial); (conv => arg 9; cbv); (try simp only [OK])) | ((with_reducible refine need_of ?hn ?_); (case hn => ((simp (disch := omega) only [hA, OK, emaU, Int.reduceToNat, s_bat]) <;> omega)))
  all_goals refine ⟨_, rfl, _, (by first | exact .inl rfl | exact .inr rfl), ?_⟩
  all_goals (try simp (disch := omega) only [hA, OK, emaU, Int.reduceToNat, s_bat, Bool.false_eq_true, true_iff, false_iff, eq_self, iff_true, iff_false])
  all_goals first | omega | (simp <;> omega) | (simp_all <;> omega)
def numV (k n : Int) : Prop :=
  if k = 2 then n = 0 ∨ n = 1 else if k = 3 then -128 ≤ n ∧ n ≤ 127 else if k = 4 then -32768 ≤ n ∧ n ≤ 32767 else if k = 5 then -2147483648 ≤ n ∧ n ≤ 2147483647
  else if k = 7 then 0 ≤ n ∧ n ≤ 255 else if k = 8 then 0 ≤ n ∧ n ≤ 65535 else if k = 9 then 0 ≤ n ∧ n ≤ 4294967295 else True
set_option maxHeartbeats 4000000 in
theorem rangedR_ok (k n : Int) (hk : 2 ≤ k ∧ k ≤ 11) (h : EH) : Tri Tryz.prog gs 118 [.lit (.int .i64 k), .lit (.int .i64 n)] h fun v h' => IsP (numV k n) v ∧ h' = h := by
  refine Tri.boolC rfl (Tri_of F118_ok fun I0 ρ0 w0 Q hρ hQ => ?_) h
  obtain ⟨A, hA⟩ : ∃ A, A = stdA := ⟨_, rfl⟩
  with_reducible refine runS hA hd hQ 200 ?hk ?_
  case hk => exact trivial
  conv => arg 9; cbv
  try simp only [OK]
  repeat' first | ((with_reducible refine ⟨fun hbr => ?_, fun hbr => ?_⟩) <;> (try simp (disch := omega) only [hA, OK, emaU, Int.reduceToNat, s_bat, reduceCtorEq] at hbr) <;> (try (with_reducible exfalso; omega))) | ((with_reducible refine runK hA hd hQ 200 ?hk ?_); (case hk => exact trivial); (conv => arg 9; cbv); (try simp only [OK])) | ((with_reducible refine need_of ?hn ?_); (case hn => ((simp (disch := omega) only [hA, OK, emaU, Int.reduceToNat, s_bat]) <;> omega)))
  all_goals (try (with_reducible refine FinR.self ?_; first | refine FinR.bl rfl ?_ | refine FinR.bs rfl ?_ | refine FinR.blh rfl ?_ rfl | refine FinR.bsh rfl ?_ rfl))
  all_goals (try simp (disch := omega) only [hA, OK, emaU, Int.reduceToNat, s_bat, Bool.false_eq_true, true_iff, false_iff, eq_self, iff_true, iff_false])
  all_goals unfold numV
  all_goals (repeat' split)
  all_goals first | omega | trivial
def bitsK (k : Int) : Int := if k = 3 ∨ k = 7 then 8 else if k = 4 ∨ k = 8 then 16 else if k = 5 ∨ k = 9 then 32 else 64
set_option maxHeartbeats 4000000 in
theorem sized_ok (k : Int) (hk : 3 ≤ k ∧ k ≤ 10) (h : EH) : Tri Tryz.prog gs 129 [.lit (.int .i64 k)] h fun v h' => (∃ b : Bool, (v = .tup [.lit (.int .i64 (bitsK k)), .lit (.bool b)]) ∧ (b = true ↔ k ≤ 6)) ∧ h' = h := by
  refine Tri.litC (φ := fun v => ∃ b : Bool, (v = .tup [.lit (.int .i64 (bitsK k)), .lit (.bool b)]) ∧ (b = true ↔ k ≤ 6)) (fun v ⟨b, hv, _⟩ => by rw [hv]; rfl) rfl (Tri_of F129_ok fun I0 ρ0 w0 Q hρ hQ => ?_) h
  obtain ⟨A, hA⟩ : ∃ A, A = stdA := ⟨_, rfl⟩
  have hc : k = 3 ∨ k = 4 ∨ k = 5 ∨ k = 6 ∨ k = 7 ∨ k = 8 ∨ k = 9 ∨ k = 10 := by omega
  have hs1 : k ≤ 6 → A.sh .shl .i64 8 (A.ib .sub .i64 k 3) = bitsK k := fun h => by
    rw [hA]; rcases hc with rfl | rfl | rfl | rfl | rfl | rfl | rfl | rfl <;> first | rfl | omega
  have hs2 : ¬ k ≤ 6 → A.sh .shl .i64 8 (A.ib .sub .i64 k 7) = bitsK k := fun h => by
    rw [hA]; rcases hc with rfl | rfl | rfl | rfl | rfl | rfl | rfl | rfl <;> first | rfl | omega
  with_reducible refine runS hA hd hQ 200 ?hk ?_
  case hk => exact trivial
  conv => arg 9; cbv
  try simp only [OK]
  repeat' first | ((with_reducible refine ⟨fun hbr => ?_, fun hbr => ?_⟩) <;> (try simp (disch := omega) only [hA, OK, emaU, Int.reduceToNat, s_bat, reduceCtorEq] at hbr) <;> (try (with_reducible exfalso; omega))) | ((with_reducible refine runK hA hd hQ 200 ?hk ?_); (case hk => exact trivial); (conv => arg 9; cbv); (try simp only [OK])) | ((with_reducible refine need_of ?hn ?_); (case hn => ((simp (disch := omega) only [hA, OK, emaU, Int.reduceToNat, s_bat]) <;> omega)))
  · exact FinR.intro rfl ⟨true, by rw [← hs1 (by omega)]; rfl, by simp; omega⟩
  · exact FinR.intro rfl ⟨false, by rw [← hs2 (by omega)]; rfl, by simp; omega⟩
set_option maxHeartbeats 4000000 in
theorem ranged_ok (k n : Int) (hk : 3 ≤ k ∧ k ≤ 10) (hn : i64r n) (h : EH) : Tri Tryz.prog gs 112 [.lit (.int .i64 k), .lit (.int .i64 n)] h fun v h' => IsP (numV k n) v ∧ h' = h := by
  refine Tri.boolC rfl (Tri_of F112_ok fun I0 ρ0 w0 Q hρ hQ => ?_) h
  obtain ⟨A, hA⟩ : ∃ A, A = stdA := ⟨_, rfl⟩
  with_reducible refine runS hA hd hQ 200 ?hk ?_
  case hk => exact trivial
  conv => arg 9; cbv
  try simp only [OK]
  repeat' first | ((with_reducible refine ⟨fun hbr => ?_, fun hbr => ?_⟩) <;> (try simp (disch := omega) only [hA, OK, emaU, Int.reduceToNat, s_bat, reduceCtorEq] at hbr) <;> (try (with_reducible exfalso; omega))) | ((with_reducible refine runK hA hd hQ 200 ?hk ?_); (case hk => exact trivial); (conv => arg 9; cbv); (try simp only [OK])) | ((with_reducible refine need_of ?hn ?_); (case hn => ((simp (disch := omega) only [hA, OK, emaU, Int.reduceToNat, s_bat]) <;> omega)))
  refine CallOK.of (goodF_of F129_ok) (Tri.mono (sized_ok k hk _) fun v hh hx => ?_)
  obtain ⟨⟨b, hv, hb⟩, hh'⟩ := hx
  subst hv; subst hh'
  obtain ⟨B, hB⟩ : ∃ B, B = bitsK k := ⟨_, rfl⟩
  rw [← hB]
  have hc : k = 3 ∨ k = 4 ∨ k = 5 ∨ k = 6 ∨ k = 7 ∨ k = 8 ∨ k = 9 ∨ k = 10 := by omega
  have hs1 : B ≠ 64 → k ≤ 6 → A.sh .shl .i64 1 (A.ib .sub .i64 B 1) = (if k = 3 then 128 else if k = 4 then 32768 else 2147483648) := fun h0 h => by
    rw [hA, hB]; rw [hB] at h0; rcases hc with rfl | rfl | rfl | rfl | rfl | rfl | rfl | rfl <;> first | rfl | omega | exact absurd rfl h0
  have hs0 : B ≠ 64 → k ≤ 6 → A.sh .shl .i64 (-1) (A.ib .sub .i64 B 1) = (if k = 3 then -128 else if k = 4 then -32768 else -2147483648) := fun h0 h => by
    rw [hA, hB]; rw [hB] at h0; rcases hc with rfl | rfl | rfl | rfl | rfl | rfl | rfl | rfl <;> first | rfl | omega | exact absurd rfl h0
  have hs2 : B ≠ 64 → ¬ k ≤ 6 → A.sh .shl .i64 1 B = (if k = 7 then 256 else if k = 8 then 65536 else 4294967296) := fun h0 h => by
    rw [hA, hB]; rw [hB] at h0; rcases hc with rfl | rfl | rfl | rfl | rfl | rfl | rfl | rfl <;> first | rfl | omega | exact absurd rfl h0
  have hnn : 0 ≤ B - 1 ∧ 0 ≤ B ∧ B ≤ 64 := by rw [hB]; rcases hc with rfl | rfl | rfl | rfl | rfl | rfl | rfl | rfl <;> decide
  have hfin : B = 64 → numV k n := fun h => by rw [hB] at h; rcases hc with rfl | rfl | rfl | rfl | rfl | rfl | rfl | rfl <;> first | exact trivial | exact absurd h (by decide)
  have h64 : B ≠ 64 → k ≠ 6 ∧ k ≠ 10 := fun h => by rw [hB] at h; rcases hc with rfl | rfl | rfl | rfl | rfl | rfl | rfl | rfl <;> first | decide | exact absurd rfl h
  obtain ⟨X1, hX1⟩ : ∃ X : Int, X = if k = 3 then 128 else if k = 4 then 32768 else 2147483648 := ⟨_, rfl⟩
  obtain ⟨X0, hX0⟩ : ∃ X : Int, X = if k = 3 then -128 else if k = 4 then -32768 else -2147483648 := ⟨_, rfl⟩
  obtain ⟨X2, hX2⟩ : ∃ X : Int, X = if k = 7 then 256 else if k = 8 then 65536 else 4294967296 := ⟨_, rfl⟩
  rw [← hX1] at hs1; rw [← hX0] at hs0; rw [← hX2] at hs2
  rw [hA] at hs1 hs0 hs2
  rw [s_sub _ _ (by omega) (by omega)] at hs1 hs0
  have hb1 : b = true → k ≤ 6 := hb.1
  have hb2 : b = false → ¬ k ≤ 6 := fun h h2 => by rw [hb.2 h2] at h; cases h
  clear hb
  with_reducible refine runK hA hd hQ 1 ?hk ?_
  case hk => exact trivial
  conv => arg 9; cbv
  try simp only [OK]
  cases b
  · have hk6 := hb2 rfl
    repeat' first | ((with_reducible refine ⟨fun hbr => ?_, fun hbr => ?_⟩) <;> (try simp (disch := omega) only [hA, OK, emaU, Int.reduceToNat, s_bat, reduceCtorEq , hs1, hs0, hs2] at hbr) <;> (try (with_reducible exfalso; omega))) | ((with_reducible refine runK hA hd hQ 200 ?hk ?_); (case hk => exact trivial); (conv => arg 9; cbv); (try simp only [OK])) | ((with_reducible refine need_of ?hn ?_); (case hn => ((simp (disch := omega) only [hA, OK, emaU, Int.reduceToNat, s_bat , hs1, hs0, hs2]) <;> omega)))
    all_goals (try (with_reducible refine FinR.self ?_; first | refine FinR.bl rfl ?_ | refine FinR.bs rfl ?_ | refine FinR.blh rfl ?_ rfl | refine FinR.bsh rfl ?_ rfl))
    all_goals (try simp (disch := omega) only [hA, OK, emaU, Int.reduceToNat, s_bat, Bool.false_eq_true, true_iff, false_iff, eq_self, iff_true, iff_false , hs1, hs0, hs2])
    · exact hfin hbr
    all_goals have h6 := h64 (by assumption)
    all_goals unfold numV
    all_goals (repeat' split at hX2)
    all_goals (repeat' split)
    all_goals omega
  · have hk6 := hb1 rfl
    repeat' first | ((with_reducible refine ⟨fun hbr => ?_, fun hbr => ?_⟩) <;> (try simp (disch := omega) only [hA, OK, emaU, Int.reduceToNat, s_bat, reduceCtorEq , hs1, hs0, hs2] at hbr) <;> (try (with_reducible exfalso; omega))) | ((with_reducible refine runK hA hd hQ 200 ?hk ?_); (case hk => exact trivial); (conv => arg 9; cbv); (try simp only [OK])) | ((with_reducible refine need_of ?hn ?_); (case hn => ((simp (disch := omega) only [hA, OK, emaU, Int.reduceToNat, s_bat , hs1, hs0, hs2]) <;> omega)))
    all_goals (try (with_reducible refine FinR.self ?_; first | refine FinR.bl rfl ?_ | refine FinR.bs rfl ?_ | refine FinR.blh rfl ?_ rfl | refine FinR.bsh rfl ?_ rfl))
    all_goals (try simp (disch := omega) only [hA, OK, emaU, Int.reduceToNat, s_bat, Bool.false_eq_true, true_iff, false_iff, eq_self, iff_true, iff_false , hs1, hs0, hs2])
    · exact hfin hbr
    all_goals have h6 := h64 (by assumption)
    all_goals unfold numV
    all_goals (repeat' split at hX1)
    all_goals (repeat' split at hX0)
    all_goals (repeat' split)
    all_goals omega
end Go.Proofs.YtecephhhjhpcjaaGreatDoor.Stats
end
