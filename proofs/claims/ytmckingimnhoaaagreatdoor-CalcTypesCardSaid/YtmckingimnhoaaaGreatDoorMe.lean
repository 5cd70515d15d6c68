/- YtmckingimnhoaaaGreatDoorMe: the texts St13, St14, St15, Ct0, Ct1, Ct2, Ct3, Ct4, Ct5, Ct6, Scg, Ct6b, Ct7, Ct8, brought together. No conditions. -/
import Derived.Test.YtmckingimnhoaaaGreatDoorMd
import Derived.Test.YtmckingimnhoaaaGreatDoorX39
import Derived.Test.YtmckingimnhoaaaGreatDoorX40
import Derived.Test.YtmckingimnhoaaaGreatDoorX22
import Derived.Test.YtmckingimnhoaaaGreatDoorX43
import Derived.Test.YtmckingimnhoaaaGreatDoorProg
import Derived.KernelRfl
set_option linter.unusedVariables false
set_option linter.unusedSimpArgs false
namespace Go.Proofs.YtmckingimnhoaaaGreatDoor.Stats
open Go Go.Proofs.YtmckingimnhoaaaGreatDoor Go.Proofs.YtmckingimnhoaaaGreatDoor.Em
section
-- emaX: s_bat
def rfA : EC → EC
  | .rf _ _ a _ => a
  | _ => .skip
def rfB : EC → EC
  | .rf _ _ _ b => b
  | _ => .skip
def LAc : EC := rfA (blkC (sndC (fstC (nthC F58.body 5))))
def LBc : EC := rfB (blkC (sndC (fstC (nthC F58.body 5))))
def LTc : List EV := mkT 71 [(1, .ptr 0 0), (2, .ptr 1 0), (5, .ptr 2 0), (6, .ptr 4 0), (45, .fn (.func 111) [] [.ptr 6 0, .ptr 5 0])]
theorem LTc_low : LowT LTc := fun g z hg => by
  show (mkT 71 [(1, mvE g z (.ptr 0 0)), (2, mvE g z (.ptr 1 0)), (5, mvE g z (.ptr 2 0)), (6, mvE g z (.ptr 4 0)), (45, mvE g z (.fn (.func 111) [] [.ptr 6 0, .ptr 5 0]))]) = _
  simp only [mvE, mvL, hg 0 (by decide), hg 1 (by decide), hg 2 (by decide), hg 4 (by decide), hg 5 (by decide), hg 6 (by decide)]
  rfl
theorem sub3m (a b c d e f g h i j k l : EO) {ie : List (EV × EV)} (hm : ∀ g z, mvM g z ie = ie) : subH [3] [a, b, c, d, e, f, g, h, i, j, k, l] [.emap ie] = [a, b, c, .emap ie, e, f, g, h, i, j, k, l] := by
  show ([a, b, c, .emap (mvM _ _ ie), e, f, g, h, i, j, k, l] : EH) = _
  rw [hm]
theorem mvH11n {fn nn : Nat} {fc nc res : List EV} {cnt : Int} {ie : List (EV × EV)} {LT : List EV} {LA LB : EC} {st : Nat} {pd : PD} (hLT : LowT LT) (hres : clL res = true) (hie : ∀ g z, mvM g z ie = ie) (fb : List EV) (hfb : clL fb = true) (t : EH) :
    mvH L11 [] (H10 fn nn fc nc res cnt ie LT LA LB st pd ++ (.blk fb :: t)) L11 = H10 fn nn fc nc res cnt ie LT LA LB st pd ++ [.blk fb] := by
  show ([.blk [.isl fn none fc, .isl nn none nc], .blk (mvL _ _ res), .blk [.lit (.int .i64 cnt)], .emap (mvM _ _ ie), .blk [.mp 3], .blk [.isl fn none fc], .blk [.lit (.int .i64 65)], .lp (mvL (mvG L11 []) (mvZ [] _) LT) [46] LA LB st pd, .blk [.yl 7], .blk [.fn (.func 112) [] [.ptr 8 0, .ptr 6 0, .ptr 9 0]], .blk (mvL _ _ fb)] : EH) = _
  rw [hie, hLT _ _ (by decide), mvL_cl _ _ _ hres, mvL_cl _ _ _ hfb]
  rfl
section
variable {ro : Option Nat} {I0 : Imm} {ρ0 : Ren} {w0 : World} {Q : Exit → Act → World → Prop}
set_option maxRecDepth 100000 in
set_option maxHeartbeats 8000000 in
theorem asg_ok (fn nn wn an kn : Nat) (fc nc wc ac kc : List EV) (nm : ByteArray) (nul inD : Bool) (k w i x : Int) (cnt : Int) (ie : List (EV × EV)) (T : List EV) (LA LB : EC)
    (hpost : ∀ a w', SimX Tryz.prog gs I0 ρ0 w0 ⟨mkT 71 [(1, .ptr 0 0), (2, .ptr 1 0), (5, .ptr 2 0), (6, .ptr 4 0), (7, .ptr 11 0), (45, .fn (.func 111) [] [.ptr 6 0, .ptr 5 0])], H10 fn nn fc nc resOK cnt ie T LA LB 0 none ++ [.blk [.lit (.string nm), .lit (.bool nul), .lit (.int .i64 k), .lit (.int .i64 w), .lit (.int .i64 i), .lit (.int .i64 x), .isl kn none kc], .blk [.isl wn none wc, .isl an none ac, .lit (.string nm), .lit (.bool nul), .lit (.int .i64 k), .lit (.int .i64 w), .lit (.int .i64 i), .lit (.int .i64 x), .isl kn none kc, .sb inD]]⟩ a w' → Q .normal a w') :
    OKs Tryz.prog gs ro I0 ρ0 w0 Q [.c LAc] ⟨setPs LTc [46] [.agg [.isl wn none wc, .isl an none ac, .lit (.string nm), .lit (.bool nul), .lit (.int .i64 k), .lit (.int .i64 w), .lit (.int .i64 i), .lit (.int .i64 x), .isl kn none kc, .sb inD]], H10 fn nn fc nc resOK cnt ie T LA LB 0 none ++ [.blk [.lit (.string nm), .lit (.bool nul), .lit (.int .i64 k), .lit (.int .i64 w), .lit (.int .i64 i), .lit (.int .i64 x), .isl kn none kc]]⟩ := by
  obtain ⟨A, hA⟩ : ∃ A, A = stdA := ⟨_, rfl⟩
  have hQ : EndsQ Tryz.prog gs I0 ρ0 w0 Q (fun _ => False) := EndsQ.no
  unfold H10
  with_reducible refine runS hA hd hQ 1 ?hk ?_
  case hk => exact trivial
  conv => arg 9; cbv
  try simp only [OK]
  repeat' first | (with_reducible refine OKK.loop ?_) | (with_reducible refine OKK.again ?_) | (with_reducible refine OKK.nilS ?_) | (with_reducible refine OKK.retS ?_) | (with_reducible refine OKK.rfS ?_) | ((with_reducible refine ⟨fun hbr => ?_, fun hbr => ?_⟩) <;> (try simp (disch := omega) only [hA, OK, emaU, Int.reduceToNat, s_bat, reduceCtorEq] at hbr) <;> (try (with_reducible exfalso; omega))) | ((with_reducible refine runK hA hd hQ 1 ?hk ?_); (case hk => exact trivial); (conv => arg 9; cbv); (try simp only [OK])) | ((with_reducible refine need_of ?hn ?_); (case hn => ((simp (disch := omega) only [hA, OK, emaU, Int.reduceToNat, s_bat]) <;> omega))) | fail
  refine OKs.mask (msk 71 [1, 2, 5, 6, 7, 45]) ?_
  exact OKs.nil hpost
set_option maxRecDepth 100000 in
set_option maxHeartbeats 8000000 in
theorem body_ok (ρl : ρ0.length = 11) (fn nn wn an kn : Nat) (fc nc wc ac kc : List EV) (nm : ByteArray) (nul inD : Bool) (k w i x : Int) (cnt : Int) (ie : List (EV × EV)) (T : List EV) (LA LB : EC) (hLT : LowT T) (hwcl : clL wc = true) (hmvi : ∀ g z, mvM g z ie = ie) (hmvs : ∀ g z k v, mvM g z (stdA.mset ie (.lit (.int .i64 k)) (.lit (.int .i64 v))) = stdA.mset ie (.lit (.int .i64 k)) (.lit (.int .i64 v)))
    (hkey : ∀ k, stdA.keyed 0 ie (.lit (.int .i64 k)) = true) (hc1 : 0 ≤ cnt) (hc2 : cnt ≤ 256) (ok : Prop)
    (hw : Tri Tryz.prog gs 82 [.agg [.isl wn none wc, .isl an none ac, .lit (.string nm), .lit (.bool nul), .lit (.int .i64 k), .lit (.int .i64 w), .lit (.int .i64 i), .lit (.int .i64 x), .isl kn none kc, .sb inD], .lit (.int .i64 cnt), .mp 0] [.emap ie] fun v h' => IsN .i64 (fun n => n = 0 ↔ ok) v ∧ h' = [.emap ie])
    (hyes : ok → ∀ a w', SimX Tryz.prog gs I0 ρ0 w0 ⟨LTc, H10 fn nn fc nc resOK (cnt + 1) (if k = 19 then stdA.mset ie (.lit (.int .i64 i)) (.lit (.int .i64 (cnt + 1))) else ie) T LA LB 1 none ++ [.blk [.lit (.string nm), .lit (.bool nul), .lit (.int .i64 k), .lit (.int .i64 w), .lit (.int .i64 i), .lit (.int .i64 x), .isl kn none kc]]⟩ a w' → Q .normal a w')
    (hno : ¬ ok → ∀ e, e ≠ 0 → ∀ a w', SimX Tryz.prog gs I0 ρ0 w0 ⟨LTc, H10 fn nn fc nc (resNo e wn wc) cnt ie T LA LB 1 none ++ [.blk [.lit (.string nm), .lit (.bool nul), .lit (.int .i64 k), .lit (.int .i64 w), .lit (.int .i64 i), .lit (.int .i64 x), .isl kn none kc]]⟩ a w' → Q .ret a w') :
    OKs Tryz.prog gs ro I0 ρ0 w0 Q [.c LBc] ⟨mkT 71 [(1, .ptr 0 0), (2, .ptr 1 0), (5, .ptr 2 0), (6, .ptr 4 0), (7, .ptr 11 0), (45, .fn (.func 111) [] [.ptr 6 0, .ptr 5 0])], H10 fn nn fc nc resOK cnt ie T LA LB 1 none ++ [.blk [.lit (.string nm), .lit (.bool nul), .lit (.int .i64 k), .lit (.int .i64 w), .lit (.int .i64 i), .lit (.int .i64 x), .isl kn none kc], .blk [.isl wn none wc, .isl an none ac, .lit (.string nm), .lit (.bool nul), .lit (.int .i64 k), .lit (.int .i64 w), .lit (.int .i64 i), .lit (.int .i64 x), .isl kn none kc, .sb inD]]⟩ := by
  obtain ⟨A, hA⟩ : ∃ A, A = stdA := ⟨_, rfl⟩
  have hQ : EndsQ Tryz.prog gs I0 ρ0 w0 Q (fun _ => False) := EndsQ.no
  unfold H10
  with_reducible refine runS hA hd hQ 1 ?hk ?_
  case hk => exact trivial
  conv => arg 9; cbv
  try simp only [OK]
  repeat' first | (with_reducible refine OKK.loop ?_) | (with_reducible refine OKK.again ?_) | (with_reducible refine OKK.nilS ?_) | (with_reducible refine OKK.retS ?_) | (with_reducible refine OKK.rfS ?_) | ((with_reducible refine ⟨fun hbr => ?_, fun hbr => ?_⟩) <;> (try simp (disch := omega) only [hA, OK, emaU, Int.reduceToNat, s_bat, reduceCtorEq] at hbr) <;> (try (with_reducible exfalso; omega))) | ((with_reducible refine runK hA hd hQ 1 ?hk ?_); (case hk => exact trivial); (conv => arg 9; cbv); (try simp only [OK])) | ((with_reducible refine need_of ?hn ?_); (case hn => ((simp (disch := omega) only [hA, OK, emaU, Int.reduceToNat, s_bat]) <;> omega))) | fail
  refine CallOK.of (goodF_of F82_ok) (Tri.mono (Tri.sub [3] [] ⟨by decide, by simp [sizeH], by simp⟩ (by simp) (show Tri _ _ _ _ (mvH [3] [] _ [3]) _ from by
    show Tri Tryz.prog gs _ [.agg [.isl wn none wc, .isl an none ac, .lit (.string nm), .lit (.bool nul), .lit (.int .i64 k), .lit (.int .i64 w), .lit (.int .i64 i), .lit (.int .i64 x), .isl kn none kc, .sb inD], .lit (.int .i64 cnt), .mp 0] [.emap (mvM _ _ ie)] _
    rw [hmvi]; exact hw) (.inl rfl)) fun v hh hx => ?_)
  obtain ⟨v0, h0, ⟨⟨z, hv0, hz⟩, hh0⟩, hv, hh'⟩ := hx
  subst hv0; subst hh0
  have hh2 := hh'.trans (sub3m _ _ _ _ _ _ _ _ _ _ _ _ hmvi)
  clear hh'
  subst hv; subst hh2
  have e1 : A.ib .add .i64 cnt 1 = cnt + 1 := by simp (disch := omega) only [hA, OK, emaU, Int.reduceToNat, s_bat]
  with_reducible refine runK hA hd hQ 1 ?hk ?_
  case hk => exact trivial
  conv => arg 9; cbv
  try simp only [OK]
  repeat' first | (with_reducible refine OKK.loop ?_) | (with_reducible refine OKK.again ?_) | (with_reducible refine OKK.nilS ?_) | (with_reducible refine OKK.retS ?_) | (with_reducible refine OKK.rfS ?_) | ((with_reducible refine ⟨fun hbr => ?_, fun hbr => ?_⟩) <;> (try simp (disch := omega) only [hA, OK, emaU, Int.reduceToNat, s_bat, reduceCtorEq , hkey] at hbr) <;> (try (with_reducible exfalso; omega))) | ((with_reducible refine runK hA hd hQ 1 ?hk ?_); (case hk => exact trivial); (conv => arg 9; cbv); (try simp only [OK])) | ((with_reducible refine need_of ?hn ?_); (case hn => ((simp (disch := omega) only [hA, OK, emaU, Int.reduceToNat, s_bat , hkey]) <;> omega))) | fail
  · refine OKs.mask (msk 71 [1, 2, 5, 6, 45]) (OKs.mvE L11 [] (by rw [ρl]; rfl) ⟨by decide, by simp [sizeH], by simp⟩ (mvH11n hLT rfl hmvi _ rfl [_]) (OKs.retO ?_))
    exact hno (fun h => hbr (hz.2 h)) z hbr
  · refine OKs.mask (msk 71 [1, 2, 5, 6, 45]) (OKs.mvE L11 [] (by rw [ρl]; rfl) ⟨by decide, by simp [sizeH], by simp⟩ (mvH11n hLT rfl (fun g z => by rw [hA]; exact hmvs g z _ _) _ rfl [_]) (OKs.nil ?_))
    have := hyes (hz.1 (by omega))
    rw [if_pos hbr, ← e1, ← hA] at this
    exact this
  · refine OKs.mask (msk 71 [1, 2, 5, 6, 45]) (OKs.mvE L11 [] (by rw [ρl]; rfl) ⟨by decide, by simp [sizeH], by simp⟩ (mvH11n hLT rfl hmvi _ rfl [_]) (OKs.nil ?_))
    have := hyes (hz.1 (by omega))
    rw [if_neg hbr, ← e1] at this
    exact this
end
theorem IdsOf_more {idm : List (Int × Int)} {prev : List Pl} {p : Pl} {v : Int} (h : IdsOf idm prev) : IdsOf (if p.f.kind = 19 then imSet idm p.f.id v else idm) (prev ++ [p]) := fun a => by
  by_cases hk : p.f.kind = 19
  · rw [if_pos hk, imSet_keys, h a]
    constructor
    · rintro (⟨o, h1, h2, h3⟩ | rfl)
      · exact ⟨o, by simp [h1], h2, h3⟩
      · exact ⟨p, by simp, hk, rfl⟩
    · rintro ⟨o, h1, h2, h3⟩
      rcases List.mem_append.1 h1 with h1 | h1
      · exact .inl ⟨o, h1, h2, h3⟩
      · rw [List.mem_singleton.1 h1] at h3; exact .inr h3.symm
  · rw [if_neg hk, h a]
    constructor
    · rintro ⟨o, h1, h2, h3⟩
      exact ⟨o, by simp [h1], h2, h3⟩
    · rintro ⟨o, h1, h2, h3⟩
      rcases List.mem_append.1 h1 with h1 | h1
      · exact ⟨o, h1, h2, h3⟩
      · rw [List.mem_singleton.1 h1] at h2; exact absurd h2 hk
set_option maxHeartbeats 4000000 in
theorem round_ok (fn nn : Nat) (fc nc : List EV) : RoundOK fn nn fc nc LTc LAc LBc := by
  intro prev idm p rest wn an kn wc ac kc cnt ie hids hprev hpl hwcl hal hok hwn han hac hkn hkc hcnt hie
  have hmvi : ∀ g z, mvM g z ie = ie := fun g z => by rw [hie]; exact mvM_im g z idm
  have hmvs : ∀ g z k v, mvM g z (stdA.mset ie (.lit (.int .i64 k)) (.lit (.int .i64 v))) = stdA.mset ie (.lit (.int .i64 k)) (.lit (.int .i64 v)) := fun g z k v => by rw [hie, im_set]; exact mvM_im g z _
  have hkey : ∀ k, stdA.keyed 0 ie (.lit (.int .i64 k)) = true := fun k => by rw [hie]; exact im_keyed idm k
  have hw := wrong_ok p wc rest prev idm hwcl hpl hal hok hprev hids
  rw [cellsP, ← hwn, ← han, ← hac, ← hkn, ← hkc, ← hcnt, ← hie] at hw
  have hmore := IdsOf_more (p := p) (v := cnt + 1) hids
  have hset : imE (if p.f.kind = 19 then imSet idm p.f.id (cnt + 1) else idm) = (if p.f.kind = 19 then stdA.mset ie (.lit (.int .i64 p.f.id)) (.lit (.int .i64 (cnt + 1))) else ie) := by
    by_cases hk : p.f.kind = 19
    · rw [if_pos hk, if_pos hk, hie, im_set]
    · rw [if_neg hk, if_neg hk, hie]
  have hlen : ((prev ++ [p]).length : Int) = cnt + 1 := by rw [hcnt]; simp
  generalize p.f.nm = nm, p.f.nul = nul, p.f.kind = k, p.f.width = w, p.f.id = i, p.f.idx = x, p.inD = inD at *
  by_cases hk : prev.length < 256 ∧ okN prev p
  · refine TriY.up (TriY_ofP (how := none) (s1 := ⟨mkT 71 [(1, .ptr 0 0), (2, .ptr 1 0), (5, .ptr 2 0), (6, .ptr 4 0), (7, .ptr 11 0), (45, .fn (.func 111) [] [.ptr 6 0, .ptr 5 0])], H10 fn nn fc nc resOK cnt ie LTc LAc LBc 0 none ++ [.blk [.lit (.string nm), .lit (.bool nul), .lit (.int .i64 k), .lit (.int .i64 w), .lit (.int .i64 i), .lit (.int .i64 x), .isl kn none kc], .blk [.isl wn none wc, .isl an none ac, .lit (.string nm), .lit (.bool nul), .lit (.int .i64 k), .lit (.int .i64 w), .lit (.int .i64 i), .lit (.int .i64 x), .isl kn none kc, .sb inD]]⟩)
      (S2 := fun s => s = ⟨LTc, H10 fn nn fc nc resOK (cnt + 1) (if k = 19 then stdA.mset ie (.lit (.int .i64 i)) (.lit (.int .i64 (cnt + 1))) else ie) LTc LAc LBc 1 none ++ [.blk [.lit (.string nm), .lit (.bool nul), .lit (.int .i64 k), .lit (.int .i64 w), .lit (.int .i64 i), .lit (.int .i64 x), .isl kn none kc]]⟩) rfl rfl
      (fun ro I0 ρ0 w0 Q hl _ hpost => asg_ok fn nn wn an kn fc nc wc ac kc nm nul inD k w i x cnt ie LTc LAc LBc hpost) rfl
      (fun ro I0 ρ0 w0 Q hl _ hpost => body_ok hl fn nn wn an kn fc nc wc ac kc nm nul inD k w i x cnt ie LTc LAc LBc LTc_low hwcl hmvi hmvs hkey (by omega) (by omega) _ hw (fun _ => hpost _ rfl) (fun hn => absurd hk hn))
      (fun s2 hs => by subst hs; exact ⟨_, _, _, _, _, _, rfl⟩)) fun v h' hx => ?_
    obtain ⟨hv, s2, t2, ps2, a2, b2, st2, pd2, rfl, hg, hh⟩ := hx
    cases hg
    refine ⟨.sb true, .inl ⟨hk, rfl, _, hmore, ?_⟩, by rw [hv]; exact Up.sb _⟩
    rw [hset, hlen]
    exact hh
  · refine TriY.up (TriY_ofP (how := some none) (s1 := ⟨mkT 71 [(1, .ptr 0 0), (2, .ptr 1 0), (5, .ptr 2 0), (6, .ptr 4 0), (7, .ptr 11 0), (45, .fn (.func 111) [] [.ptr 6 0, .ptr 5 0])], H10 fn nn fc nc resOK cnt ie LTc LAc LBc 0 none ++ [.blk [.lit (.string nm), .lit (.bool nul), .lit (.int .i64 k), .lit (.int .i64 w), .lit (.int .i64 i), .lit (.int .i64 x), .isl kn none kc], .blk [.isl wn none wc, .isl an none ac, .lit (.string nm), .lit (.bool nul), .lit (.int .i64 k), .lit (.int .i64 w), .lit (.int .i64 i), .lit (.int .i64 x), .isl kn none kc, .sb inD]]⟩)
      (S2 := fun s => ∃ e : Int, e ≠ 0 ∧ s = ⟨LTc, H10 fn nn fc nc (resNo e wn wc) cnt ie LTc LAc LBc 1 none ++ [.blk [.lit (.string nm), .lit (.bool nul), .lit (.int .i64 k), .lit (.int .i64 w), .lit (.int .i64 i), .lit (.int .i64 x), .isl kn none kc]]⟩) rfl rfl
      (fun ro I0 ρ0 w0 Q hl _ hpost => asg_ok fn nn wn an kn fc nc wc ac kc nm nul inD k w i x cnt ie LTc LAc LBc hpost) rfl
      (fun ro I0 ρ0 w0 Q hl _ hpost => body_ok hl fn nn wn an kn fc nc wc ac kc nm nul inD k w i x cnt ie LTc LAc LBc LTc_low hwcl hmvi hmvs hkey (by omega) (by omega) _ hw (fun h => absurd h hk) (fun _ e he => hpost _ ⟨e, he, rfl⟩))
      (fun s2 ⟨e, he, hs⟩ => by subst hs; exact ⟨_, _, _, _, _, _, rfl⟩)) fun v h' hx => ?_
    obtain ⟨hv, s2, t2, ps2, a2, b2, st2, pd2, ⟨e, he, rfl⟩, hg, hh⟩ := hx
    cases hg
    refine ⟨.sb false, .inr ⟨hk, rfl, e, wn, wc, cnt, idm, he, ?_⟩, by rw [hv]; exact Up.sb _⟩
    rw [← hie]
    exact hh
end
-- emaX: s_bat
theorem all_ok (n : Nat) (c : List EV) (h : EH) : Tri Tryz.prog gs 81 [.isl n none c, .lit (.int .i64 65)] h fun v h' => v = .fn (.func 111) [] [.ptr (sizeH h + 1) 0, .ptr (sizeH h) 0] ∧ h' = pushH (pushH h (.blk [.isl n none c])) (.blk [.lit (.int .i64 65)]) := by
  have t : Tri Tryz.prog gs 81 [.isl n none c, .lit (.int .i64 65)] [] fun v h' => v = .fn (.func 111) [] [.ptr 1 0, .ptr 0 0] ∧ h' = [.blk [.isl n none c], .blk [.lit (.int .i64 65)]] := by
    refine Tri_of F81_ok fun I0 ρ0 w0 Q hρ hQ => ?_
    obtain ⟨A, hA⟩ : ∃ A, A = stdA := ⟨_, rfl⟩
    with_reducible refine runS hA hd hQ 200 ?hk ?_
    case hk => exact trivial
    conv => arg 9; cbv
    try simp only [OK]
    repeat' first | ((with_reducible refine ⟨fun hbr => ?_, fun hbr => ?_⟩) <;> (try simp (disch := omega) only [hA, OK, emaU, Int.reduceToNat, s_bat, reduceCtorEq] at hbr) <;> (try (with_reducible exfalso; omega))) | ((with_reducible refine runK hA hd hQ 200 ?hk ?_); (case hk => exact trivial); (conv => arg 9; cbv); (try simp only [OK])) | ((with_reducible refine need_of ?hn ?_); (case hn => ((simp (disch := omega) only [hA, OK, emaU, Int.reduceToNat, s_bat]) <;> omega))) | fail
    exact FinR.intro rfl ⟨rfl, rfl⟩
  refine (Tri.frame (h := h) (R := fun v h' => v = .fn (.func 111) [] [.ptr 1 0, .ptr 0 0] ∧ h' = [.blk [.isl n none c], .blk [.lit (.int .i64 65)]]) [] (by simp) t (.inl rfl)).mono fun v h' ⟨v0, h0, ⟨e1, e2⟩, e3, e4⟩ => ?_
  subst e1; subst e2; subst e3; subst e4
  exact ⟨rfl, rfl⟩
def H8 (fn nn : Nat) (fc nc res : List EV) (cnt : Int) (ie : List (EV × EV)) (LT : List EV) (LA LB : EC) : EH :=
  [.blk [.isl fn none fc, .isl nn none nc], .blk res, .blk [.lit (.int .i64 cnt)], .emap ie, .blk [.mp 3], .blk [.isl fn none fc], .blk [.lit (.int .i64 65)], .lp LT [46] LA LB 0 none]
set_option maxRecDepth 100000 in
set_option maxHeartbeats 4000000 in
theorem all1_ok (fs : List Fld) (fn nn : Nat) (fc nc : List EV) (LT : List EV) (LA LB : EC) (hLT : LowT LT) (hround : RoundOK fn nn fc nc LT LA LB) (hok : okFs fs) (hfs : fs.length ≤ 140737488351232) (hfn : fn = fs.length) (hfc : fc = cellsFs fs) :
    Tri Tryz.prog gs 111 [.yl 7, .ptr 6 0, .ptr 5 0] (H8 fn nn fc nc resOK 0 [] LT LA LB) fun v h' => ∃ b, WalkR fn nn fc nc LT LA LB (allN [] (nodesFs [] [] false fs)) (nodesFs [] [] false fs) [] (.sb b) h' := by
  refine Tri_of F111_ok fun I0 ρ0 w0 Q hρ hQ => ?_
  obtain ⟨A, hA⟩ : ∃ A, A = stdA := ⟨_, rfl⟩
  unfold H8
  with_reducible refine runS hA hd hQ 1 ?hk ?_
  case hk => exact trivial
  conv => arg 9; cbv
  try simp only [OK]
  repeat' first | ((with_reducible refine ⟨fun hbr => ?_, fun hbr => ?_⟩) <;> (try simp (disch := omega) only [hA, OK, emaU, Int.reduceToNat, s_bat, reduceCtorEq] at hbr) <;> (try (with_reducible exfalso; omega))) | ((with_reducible refine runK hA hd hQ 1 ?hk ?_); (case hk => exact trivial); (conv => arg 9; cbv); (try simp only [OK])) | ((with_reducible refine need_of ?hn ?_); (case hn => ((simp (disch := omega) only [hA, OK, emaU, Int.reduceToNat, s_bat]) <;> omega))) | fail
  have t := down_ok fn nn fc nc LT LA LB hLT hround 65 fs [] (.lit (.slice none 0 0)) [] false [] [] fn fc 0 [] (by simp) (by simp) rfl rfl rfl hok hfs (fun a => by simp) (by simp) hfn hfc rfl rfl
  have t2 := Tri.args (args := [.lit (.slice none 0 0), .isl fn none fc, .lit (.bool false), .ptr 8 0, .ptr 6 0, .ptr 9 0]) t (UpL.cons (Up.refl _) (UpL.cons (Up.refl _) (UpL.cons (Up.sb _) (UpL.cons (Up.refl _) (UpL.cons (Up.refl _) (UpL.cons (Up.refl _) UpL.nil))))))
  refine CallOK.of (goodF_of F112_ok) (Tri.mono t2 fun v hh hx => ?_)
  have hb : ∃ b, v = .sb b := hx.elim (fun h => ⟨_, h.2.1⟩) fun h => ⟨_, h.2.1⟩
  obtain ⟨b, rfl⟩ := hb
  rw [List.nil_append] at hx
  exact OKs.nil fun a w hs => (hQ ⟨_, hh⟩ (FinR.intro rfl ⟨b, hx⟩) a w hs).1
set_option maxRecDepth 100000 in
set_option maxHeartbeats 8000000 in
theorem check_ok (fs : List Fld) (ns : List Nt) (hfs : fs.length ≤ 140737488351232) (hns : ns.length ≤ 140737488351232) (hok : okFs fs) (hnt : ∀ x ∈ ns, x.1.size ≤ 140737488351232 ∧ x.2.size ≤ 140737488351232) (h : EH) :
    Tri Tryz.prog gs 58 [.agg [.isl fs.length none (cellsFs fs), .isl ns.length none (cellsNts ns)]] h fun v h' => IsF (mayS fs ns) v ∧ h' = h := by
  refine Tri.faultC rfl (Tri_of F58_ok fun I0 ρ0 w0 Q hρ hQ => ?_) h
  obtain ⟨A, hA⟩ : ∃ A, A = stdA := ⟨_, rfl⟩
  have hng := nt_get ns
  obtain ⟨fn, hfn⟩ : ∃ n, n = fs.length := ⟨_, rfl⟩
  obtain ⟨fc, hfc⟩ : ∃ n, n = cellsFs fs := ⟨_, rfl⟩
  obtain ⟨nn, hnn⟩ : ∃ n, n = ns.length := ⟨_, rfl⟩
  obtain ⟨nc, hnc⟩ : ∃ n, n = cellsNts ns := ⟨_, rfl⟩
  rw [← hfn, ← hfc, ← hnn, ← hnc]
  with_reducible refine runS hA hd hQ 200 ?hk ?_
  case hk => exact trivial
  conv => arg 9; cbv
  try simp only [OK]
  repeat' first | (with_reducible refine OKK.loop ?_) | (with_reducible refine OKK.again ?_) | ((with_reducible refine ⟨fun hbr => ?_, fun hbr => ?_⟩) <;> (try simp (disch := omega) only [hA, OK, emaU, Int.reduceToNat, s_bat, reduceCtorEq] at hbr) <;> (try (with_reducible exfalso; omega))) | ((with_reducible refine runK hA hd hQ 200 ?hk ?_); (case hk => exact trivial); (conv => arg 9; cbv); (try simp only [OK])) | ((with_reducible refine need_of ?hn ?_); (case hn => ((simp (disch := omega) only [hA, OK, emaU, Int.reduceToNat, s_bat]) <;> omega))) | fail
  all_goals try ((with_reducible refine FinR.self ?_); refine FinR.f rfl (Up.nil []) ⟨fun h => absurd h (by decide), fun h => by have h1 := h.1; have h2 := h.2.1; simp (disch := omega) only [hA, OK, emaU, Int.reduceToNat, s_bat] at *; omega⟩)
  refine OKs.mask (msk 71 [1, 2, 22, 23, 24]) ?_
  refine OKs.loopN (fun n st => ∃ z : Int, st = ⟨mkT 71 [(1, .ptr 0 0), (2, .ptr 1 0), (22, .isl nn none nc), (23, .lit (.int .i64 (A.ofn nn))), (24, .lit (.int .i64 z))], [.blk [.isl fn none fc, .isl nn none nc], .blk [.lit (.int .i64 0), .lit (.slice none 0 0), .lit (.int .i64 0)]]⟩ ∧ n = (nn - z).toNat ∧ 0 ≤ z ∧ z ≤ nn ∧ ∀ j, j < z.toNat → ntP (ns.getD j nt0)) (fun n st hs' ih => ?_) ⟨0, rfl, rfl, by omega, by omega, fun j hj => absurd hj (by simp)⟩
  obtain ⟨z, rfl, hn, hz1, hz2, hz3⟩ := hs'
  obtain ⟨x, hx⟩ : ∃ x, x = ns.getD z.toNat nt0 := ⟨_, rfl⟩
  have hL : z < nn → List.take 2 (List.drop (A.idx 0 z 2) nc) = cellsNt x := fun hz => by rw [hA, s_idx, Nat.zero_add, hnc, hng z.toNat (by omega), ← hx]
  have hxm : z < nn → x ∈ ns := fun hz => by rw [hx, List.getD_eq_getElem?_getD, List.getElem?_eq_getElem (by omega)]; exact List.getElem_mem _
  have hxs : z < nn → x.1.size ≤ 140737488351232 ∧ x.2.size ≤ 140737488351232 := fun hz => hnt x (hxm hz)
  have hst := allP_step (p := fun j => ntP (ns.getD j nt0)) hz1 hz3
  simp only [← hx] at hst
  obtain ⟨key, text⟩ := x
  simp only [cellsNt] at hL hxs
  with_reducible refine runS hA hd hQ 1 ?hk ?_
  case hk => exact trivial
  conv => arg 9; cbv
  try simp only [OK]
  repeat' first | (with_reducible refine OKK.loop ?_) | (with_reducible refine OKK.again ?_) | (with_reducible refine OKK.rfS ?_) | ((with_reducible refine ⟨fun hbr => ?_, fun hbr => ?_⟩) <;> (try simp (disch := omega) only [hA, OK, emaU, Int.reduceToNat, s_bat, reduceCtorEq] at hbr) <;> (try (with_reducible exfalso; omega))) | ((with_reducible refine runK hA hd hQ 1 ?hk ?_); (case hk => exact trivial); (conv => arg 9; cbv); (try simp only [OK])) | ((with_reducible refine need_of ?hn ?_); (case hn => ((simp (disch := omega) only [hA, OK, emaU, Int.reduceToNat, s_bat]) <;> omega))) | ((refine ⟨_, _, ?l1, (hL (by omega)), rfl, ?_⟩); (case l1 => exact rfl)) | fail
  all_goals try ((with_reducible refine FinR.self ?_); refine FinR.f rfl (Up.nil []) ⟨fun h => absurd h (by decide), fun h => by have h1 := h.2.2.1 _ (hxm (by omega)); have h2 := h1.1; have h3 := h1.2; simp only at h2 h3; omega⟩)
  · refine OKs.mask (msk 71 [1, 2, 22, 23, 24]) (OKs.mv [0, 1] [] (by rw [hρ]; rfl) ⟨by decide, by simp [sizeH], by simp⟩ (ih _ _ ⟨_, rfl, rfl, ?_, ?_, ?_⟩ ?_))
    all_goals simp (disch := omega) only [hA, OK, emaU, Int.reduceToNat, s_bat]
    all_goals first
      | omega
      | exact hst ⟨by simp only; omega, by simp only; omega⟩
  have hnall : ∀ x ∈ ns, ntP x := all_ofG (by omega) hz3
  clear hst hxs hxm hx hL
  refine CallOK.of (goodF_of F81_ok) (Tri.mono (all_ok fn fc _) fun v hh hx => ?_)
  obtain ⟨e1, e2⟩ := hx
  subst e1; subst e2
  with_reducible refine runK hA hd hQ 1 ?hk ?_
  case hk => exact trivial
  conv => arg 9; cbv
  try simp only [OK]
  repeat' first | (with_reducible refine OKK.loop ?_) | (with_reducible refine OKK.again ?_) | (with_reducible refine OKK.rfS ?_) | ((with_reducible refine ⟨fun hbr => ?_, fun hbr => ?_⟩) <;> (try simp (disch := omega) only [hA, OK, emaU, Int.reduceToNat, s_bat, reduceCtorEq] at hbr) <;> (try (with_reducible exfalso; omega))) | ((with_reducible refine runK hA hd hQ 1 ?hk ?_); (case hk => exact trivial); (conv => arg 9; cbv); (try simp only [OK])) | ((with_reducible refine need_of ?hn ?_); (case hn => ((simp (disch := omega) only [hA, OK, emaU, Int.reduceToNat, s_bat]) <;> omega))) | fail
  refine OKs.mask (msk 71 [1, 2, 5, 6, 45]) ?_
  have t := all1_ok fs fn nn fc nc LTc LAc LBc LTc_low (round_ok fn nn fc nc) hok hfs hfn hfc
  refine OKs.rf (gf := 111) (av := []) (bv := [.ptr 6 0, .ptr 5 0]) rfl (goodF_of F111_ok) t fun v h' hx => ?_
  obtain ⟨b, ⟨hmay, _, idm, _, rfl⟩ | ⟨hno, _, e, pn, pc, cnt, idm, he, rfl⟩⟩ := hx
  · obtain ⟨ie, hie⟩ : ∃ e, e = imE idm := ⟨_, rfl⟩
    obtain ⟨cz, hcz⟩ : ∃ e : Int, e = (nodesFs [] [] false fs).length := ⟨_, rfl⟩
    rw [← hie, ← hcz]
    obtain ⟨T, hT⟩ : ∃ e, e = LTc := ⟨_, rfl⟩
    refine ⟨_, _, _, _, _, _, rfl, by decide, ?_⟩
    show OKs Tryz.prog gs none I0 ρ0 w0 Q _ ⟨LTc, [.blk [.isl fn none fc, .isl nn none nc], .blk resOK, .blk [.lit (.int .i64 cz)], .emap ie, .blk [.mp 3], .blk [.isl fn none fc], .blk [.lit (.int .i64 65)], .dead, .blk [.yl 7], .blk [.fn (.func 112) [] [.ptr 8 0, .ptr 6 0, .ptr 9 0]]]⟩
    with_reducible refine runS hA hd hQ 200 ?hk ?_
    case hk => exact trivial
    conv => arg 9; cbv
    try simp only [OK]
    repeat' first | (with_reducible refine OKK.loop ?_) | (with_reducible refine OKK.again ?_) | ((with_reducible refine ⟨fun hbr => ?_, fun hbr => ?_⟩) <;> (try simp (disch := omega) only [hA, OK, emaU, Int.reduceToNat, s_bat, reduceCtorEq] at hbr) <;> (try (with_reducible exfalso; omega))) | ((with_reducible refine runK hA hd hQ 200 ?hk ?_); (case hk => exact trivial); (conv => arg 9; cbv); (try simp only [OK])) | ((with_reducible refine need_of ?hn ?_); (case hn => ((simp (disch := omega) only [hA, OK, emaU, Int.reduceToNat, s_bat]) <;> omega))) | fail
    exact FinR.f rfl (Up.nil []) ⟨fun _ => ⟨by omega, by omega, hnall, hmay⟩, fun _ => rfl⟩
  · refine ⟨_, _, _, _, _, _, rfl, by decide, fun a w hs => (hQ _ (FinR.f rfl (Up.refl _) ⟨fun h => absurd h he, fun h => absurd h.2.2.2 hno⟩) a w hs).2⟩
theorem Up.agg2 {a b a' b' : EV} (h1 : Up a a') (h2 : Up b b') : Up (.agg [a, b]) (.agg [a', b']) := fun w I ρ cv hr => by
  cases hr with
  | agg _ c vs hl hc =>
    refine .agg _ _ _ (by simpa using hl) fun j e v he hv => ?_
    match j, he with
    | 0, he => simp at he; subst he; exact h1 _ _ _ _ (hc 0 _ v rfl hv)
    | 1, he => simp at he; subst he; exact h2 _ _ _ _ (hc 1 _ v rfl hv)
def mayF (f : Fld) : Prop := mayS [f] []
set_option maxHeartbeats 2000000 in
theorem checkField_ok (f : Fld) (hok : okF f) (h : EH) : Tri Tryz.prog gs 20 [.agg (cellsF f)] h fun v h' => IsF (mayF f) v ∧ h' = h := by
  have hc := check_ok [f] [] (by simp) (by simp) ⟨hok, trivial⟩ (by simp)
  simp only [cellsFs, cellsNts, List.append_nil, List.length_singleton, List.length_nil] at hc
  rw [cellsF_eq] at hc ⊢
  generalize cellsFs f.kids = kc, f.kids.length = kn, f.nm = nm, f.nul = nul, f.kind = k, f.width = w, f.id = i, f.idx = x at hc ⊢
  refine Tri.faultC rfl (Tri_of F20_ok fun I0 ρ0 w0 Q hρ hQ => ?_) h
  obtain ⟨A, hA⟩ : ∃ A, A = stdA := ⟨_, rfl⟩
  with_reducible refine runS hA hd hQ 200 ?hk ?_
  case hk => exact trivial
  conv => arg 9; cbv
  try simp only [OK]
  repeat' first | ((with_reducible refine ⟨fun hbr => ?_, fun hbr => ?_⟩) <;> (try simp (disch := omega) only [hA, OK, emaU, Int.reduceToNat, s_bat, reduceCtorEq] at hbr) <;> (try (with_reducible exfalso; omega))) | ((with_reducible refine runK hA hd hQ 200 ?hk ?_); (case hk => exact trivial); (conv => arg 9; cbv); (try simp only [OK])) | ((with_reducible refine need_of ?hn ?_); (case hn => ((simp (disch := omega) only [hA, OK, emaU, Int.reduceToNat, s_bat]) <;> omega))) | fail
  refine CallOK.of (goodF_of F58_ok) (Tri.mono (Tri.freeze 3 rfl [2] ⟨by decide, by simp [sizeH], fun id hid => by simp at hid; subst hid; exact ⟨_, rfl, rfl⟩⟩ (Tri.args (hc _) (UpL.cons (Up.agg2 (Up.cap _ _ _) (Up.nil _)) UpL.nil))) fun v hh hx => ?_)
  obtain ⟨⟨e, at', pn, pc, hv, he⟩, hh'⟩ := hx
  subst hv
  have hh2 : hh = [.blk [.lit (.string nm), .lit (.bool nul), .lit (.int .i64 k), .lit (.int .i64 w), .lit (.int .i64 i), .lit (.int .i64 x), .isl kn none kc], .blk [.lit (.int .i64 0), .lit (.slice none 0 0), .lit (.int .i64 0)], .dead] := hh'
  subst hh2
  with_reducible refine runK hA hd hQ 1 ?hk ?_
  case hk => exact trivial
  conv => arg 9; cbv
  try simp only [OK]
  repeat' first | ((with_reducible refine ⟨fun hbr => ?_, fun hbr => ?_⟩) <;> (try simp (disch := omega) only [hA, OK, emaU, Int.reduceToNat, s_bat, reduceCtorEq] at hbr) <;> (try (with_reducible exfalso; omega))) | ((with_reducible refine runK hA hd hQ 200 ?hk ?_); (case hk => exact trivial); (conv => arg 9; cbv); (try simp only [OK])) | ((with_reducible refine need_of ?hn ?_); (case hn => ((simp (disch := omega) only [hA, OK, emaU, Int.reduceToNat, s_bat]) <;> omega))) | fail
  all_goals exact FinR.f rfl (Up.refl _) he
-- emaX: s_bat
set_option maxHeartbeats 2000000 in
theorem checkFieldR_ok (f : Fld) (hok : okF f) (h : EH) : Tri Tryz.prog gs 49 [.agg (cellsF f)] h fun v h' => IsF (mayF f) v ∧ h' = h := by
  have hc := checkR_ok [f] [] (by simp) (by simp) ⟨hok, trivial⟩ (by simp)
  simp only [cellsFs, cellsNts, List.append_nil, List.length_singleton, List.length_nil] at hc
  rw [cellsF_eq] at hc ⊢
  generalize cellsFs f.kids = kc, f.kids.length = kn, f.nm = nm, f.nul = nul, f.kind = k, f.width = w, f.id = i, f.idx = x at hc ⊢
  refine Tri.faultC rfl (Tri_of F49_ok fun I0 ρ0 w0 Q hρ hQ => ?_) h
  obtain ⟨A, hA⟩ : ∃ A, A = stdA := ⟨_, rfl⟩
  with_reducible refine runS hA hd hQ 200 ?hk ?_
  case hk => exact trivial
  conv => arg 9; cbv
  try simp only [OK]
  repeat' first | ((with_reducible refine ⟨fun hbr => ?_, fun hbr => ?_⟩) <;> (try simp (disch := omega) only [hA, OK, emaU, Int.reduceToNat, s_bat, reduceCtorEq] at hbr) <;> (try (with_reducible exfalso; omega))) | ((with_reducible refine runK hA hd hQ 200 ?hk ?_); (case hk => exact trivial); (conv => arg 9; cbv); (try simp only [OK])) | ((with_reducible refine need_of ?hn ?_); (case hn => ((simp (disch := omega) only [hA, OK, emaU, Int.reduceToNat, s_bat]) <;> omega))) | fail
  refine CallOK.of (goodF_of F73_ok) (Tri.mono (Tri.freeze 3 rfl [2] ⟨by decide, by simp [sizeH], fun id hid => by simp at hid; subst hid; exact ⟨_, rfl, rfl⟩⟩ (Tri.args (hc _) (UpL.cons (Up.agg2 (Up.cap _ _ _) (Up.nil _)) UpL.nil))) fun v hh hx => ?_)
  obtain ⟨⟨e, at', pn, pc, hv, he⟩, hh'⟩ := hx
  subst hv
  have hh2 : hh = [.blk [.lit (.string nm), .lit (.bool nul), .lit (.int .i64 k), .lit (.int .i64 w), .lit (.int .i64 i), .lit (.int .i64 x), .isl kn none kc], .blk [.lit (.int .i64 0), .lit (.slice none 0 0), .lit (.int .i64 0)], .dead] := hh'
  subst hh2
  with_reducible refine runK hA hd hQ 1 ?hk ?_
  case hk => exact trivial
  conv => arg 9; cbv
  try simp only [OK]
  repeat' first | ((with_reducible refine ⟨fun hbr => ?_, fun hbr => ?_⟩) <;> (try simp (disch := omega) only [hA, OK, emaU, Int.reduceToNat, s_bat, reduceCtorEq] at hbr) <;> (try (with_reducible exfalso; omega))) | ((with_reducible refine runK hA hd hQ 200 ?hk ?_); (case hk => exact trivial); (conv => arg 9; cbv); (try simp only [OK])) | ((with_reducible refine need_of ?hn ?_); (case hn => ((simp (disch := omega) only [hA, OK, emaU, Int.reduceToNat, s_bat]) <;> omega))) | fail
  all_goals exact FinR.f rfl (Up.refl _) he
theorem mayBeR_ok (f : Fld) (hok : okF f) (h : EH) : Tri Tryz.prog gs 11 [.agg (cellsF f)] h fun v h' => IsP (mayF f) v ∧ h' = h := by
  have hc := checkFieldR_ok f hok
  rw [cellsF_eq] at hc ⊢
  generalize cellsFs f.kids = kc, f.kids.length = kn, f.nm = nm, f.nul = nul, f.kind = k, f.width = w, f.id = i, f.idx = x at hc ⊢
  refine Tri.boolC rfl (Tri_of F11_ok fun I0 ρ0 w0 Q hρ hQ => ?_) h
  obtain ⟨A, hA⟩ : ∃ A, A = stdA := ⟨_, rfl⟩
  with_reducible refine runS hA hd hQ 200 ?hk ?_
  case hk => exact trivial
  conv => arg 9; cbv
  try simp only [OK]
  repeat' first | ((with_reducible refine ⟨fun hbr => ?_, fun hbr => ?_⟩) <;> (try simp (disch := omega) only [hA, OK, emaU, Int.reduceToNat, s_bat, reduceCtorEq] at hbr) <;> (try (with_reducible exfalso; omega))) | ((with_reducible refine runK hA hd hQ 200 ?hk ?_); (case hk => exact trivial); (conv => arg 9; cbv); (try simp only [OK])) | ((with_reducible refine need_of ?hn ?_); (case hn => ((simp (disch := omega) only [hA, OK, emaU, Int.reduceToNat, s_bat]) <;> omega))) | fail
  refine CallOK.of (goodF_of F49_ok) (Tri.mono (hc _) fun v hh hx => ?_)
  obtain ⟨⟨e, at', pn, pc, hv, he⟩, hh'⟩ := hx
  subst hv; subst hh'
  with_reducible refine runK hA hd hQ 1 ?hk ?_
  case hk => exact trivial
  conv => arg 9; cbv
  try simp only [OK]
  repeat' first | ((with_reducible refine ⟨fun hbr => ?_, fun hbr => ?_⟩) <;> (try simp (disch := omega) only [hA, OK, emaU, Int.reduceToNat, s_bat, reduceCtorEq] at hbr) <;> (try (with_reducible exfalso; omega))) | ((with_reducible refine runK hA hd hQ 200 ?hk ?_); (case hk => exact trivial); (conv => arg 9; cbv); (try simp only [OK])) | ((with_reducible refine need_of ?hn ?_); (case hn => ((simp (disch := omega) only [hA, OK, emaU, Int.reduceToNat, s_bat]) <;> omega))) | fail
  all_goals (try (with_reducible refine FinR.self ?_; first | refine FinR.bl rfl ?_ | refine FinR.bs rfl ?_ | refine FinR.blh rfl ?_ rfl | refine FinR.bsh rfl ?_ rfl))
  all_goals (try simp (disch := omega) only [hA, OK, emaU, Int.reduceToNat, s_bat, Bool.false_eq_true, true_iff, false_iff, eq_self, iff_true, iff_false])
  all_goals exact he
mutual
def allF : Fld → Prop
  | .mk nm nul k w i x kids => nameP nm ∧ fitsP k w i x kids.length ∧ nullsP nul k kids ∧ allFs kids
def allFs : List Fld → Prop
  | [] => True
  | f :: l => allF f ∧ allFs l
end
mutual
theorem allN_allF : ∀ (f : Fld) (path : List Nat) (ahead : List Fld) (inD : Bool) (prev : List Pl), path.length ≤ 64 → allN prev (nodesF path ahead inD f) → allF f
  | .mk nm nul k w i x kids, path, ahead, inD, prev, hp, h => by
    rw [nodesF, allN] at h
    obtain ⟨_, h2, h3⟩ := h
    obtain ⟨o1, o2, _, o4, o5, _⟩ := h2
    simp only [List.length_append, List.length_singleton] at o1
    rw [if_pos (by omega)] at h3
    exact ⟨o2, o4, o5, allN_allFs kids _ [] _ _ (by simp; omega) h3⟩
theorem allN_allFs : ∀ (l : List Fld) (path : List Nat) (ahead : List Fld) (inD : Bool) (prev : List Pl), path.length ≤ 64 → allN prev (nodesFs path ahead inD l) → allFs l
  | [], _, _, _, _, _, _ => trivial
  | f :: l, path, ahead, inD, prev, hp, h => by
    rw [nodesFs, allN_app] at h
    exact ⟨allN_allF f path ahead inD prev hp h.1, allN_allFs l path _ inD _ hp h.2⟩
end
theorem mayF_all {f : Fld} (h : mayF f) : allF f := by
  have := h.2.2.2
  rw [nodesFs, nodesFs, List.append_nil] at this
  exact allN_allF f [] [] false [] (by simp) this
inductive Core : Fld → Fld → Prop
  | here (f : Fld) : ¬ (f.kind = 19 ∨ f.kind = 20) → Core f f
  | down (f c g : Fld) : (f.kind = 19 ∨ f.kind = 20) → f.kids = [c] → Core c g → Core f g
theorem kid_of {k w i x : Int} {kids : List Fld} (hf : fitsP k w i x kids.length) (hk : k = 19 ∨ k = 20) : ∃ c, kids = [c] := by
  obtain ⟨_, _, h⟩ := hf
  have : kids.length = 1 := by
    rcases hk with rfl | rfl <;> simp at h <;> omega
  match kids, this with
  | [c], _ => exact ⟨c, rfl⟩
theorem Tri.valK {P : Program} {G : List (List EV)} {f : FuncId} {args : List EV} {V : EV} (hV : clE V = true) (ha : clL args = true) (t : Tri P G f args [] fun v _ => v = V) (h : EH) : Tri P G f args h fun v h' => v = V ∧ h' = h :=
  Tri.litC (φ := fun v => v = V) (fun v hv => by rw [hv]; exact hV) ha t h
mutual
def sameT : Fld → Fld → Prop
  | .mk _ _ k w i x kids, g => k = g.kind ∧ w = g.width ∧ i = g.id ∧ x = g.idx ∧ sameTs kids g.kids
def sameTs : List Fld → List Fld → Prop
  | [], l => l = []
  | f :: l, [] => False
  | f :: l, g :: m => f.nm = g.nm ∧ f.nul = g.nul ∧ sameT f g ∧ sameTs l m
end
theorem sameT_iff (f g : Fld) : sameT f g ↔ (f.kind = g.kind ∧ f.width = g.width ∧ f.id = g.id ∧ f.idx = g.idx ∧ sameTs f.kids g.kids) := by
  obtain ⟨a1, a2, a3, a4, a5, a6, a7⟩ := f
  rw [sameT]; exact Iff.rfl
theorem sameTs_len : ∀ {l m : List Fld}, sameTs l m → l.length = m.length
  | [], m, h => by rw [sameTs] at h; rw [h]
  | f :: l, [], h => by rw [sameTs] at h; exact h.elim
  | f :: l, g :: m, h => by rw [sameTs] at h; simp [sameTs_len h.2.2.2]
def simF (f g : Fld) : Prop := f.nul = g.nul ∧ f.kind = g.kind ∧ f.width = g.width ∧ f.id = g.id ∧ f.idx = g.idx ∧ f.kids.length = g.kids.length
def simN (p q : Pl) : Prop := simF p.f q.f ∧ (1 < p.path.length → p.f.nm = q.f.nm)
def All2 : List Pl → List Pl → Prop
  | [], [] => True
  | p :: l, q :: m => simN p q ∧ All2 l m
  | _, _ => False
theorem All2_iff : ∀ {l m : List Pl} (d : Pl), All2 l m ↔ l.length = m.length ∧ ∀ j, j < l.length → simN (l.getD j d) (m.getD j d)
  | [], [], d => by simp [All2]
  | [], q :: m, d => by simp [All2]
  | p :: l, [], d => by simp [All2]
  | p :: l, q :: m, d => by
    rw [All2, All2_iff d]
    constructor
    · rintro ⟨h1, h2, h3⟩
      refine ⟨by simp [h2], fun j hj => ?_⟩
      cases j with
      | zero => exact h1
      | succ j => exact h3 j (by simpa using hj)
    · rintro ⟨h1, h2⟩
      exact ⟨h2 0 (by simp), by simpa using h1, fun j hj => h2 (j + 1) (by simpa using hj)⟩
def lowL (l : List Pl) : Prop := ∀ p ∈ l, p.path.length ≤ 64
theorem allN_low : ∀ {l prev : List Pl}, allN prev l → lowL l
  | [], _, _ => fun p hp => by cases hp
  | p :: l, prev, h => fun q hq => by
    rcases List.mem_cons.1 hq with rfl | hq
    · exact h.2.1.1
    · exact allN_low h.2.2 q hq
mutual
theorem nodesF_same : ∀ (f g : Fld) (p p' : List Nat) (a a' : List Fld) (d d' : Bool) (r r' : List Pl), p.length = p'.length → lowL (nodesF p a d f ++ r) →
    (All2 (nodesF p a d f ++ r) (nodesF p' a' d' g ++ r') ↔ ((1 ≤ p.length → f.nm = g.nm) ∧ f.nul = g.nul ∧ sameT f g) ∧ All2 r r')
  | .mk nm nul k w i x kids, .mk nm' nul' k' w' i' x' kids', p, p', a, a', d, d', r, r', hp, hlow => by
    rw [nodesF, nodesF, List.cons_append, List.cons_append, All2]
    have h64 : (p ++ [a.length]).length ≤ 64 := hlow ⟨p ++ [a.length], a, .mk nm nul k w i x kids, d⟩ (by rw [nodesF]; simp)
    simp only [List.length_append, List.length_singleton] at h64
    rw [if_pos (by omega), if_pos (by omega)]
    have hlow2 : lowL (nodesFs (p ++ [a.length]) [] (d || decide (k = 19)) kids ++ r) := fun q hq => hlow q (by rw [nodesF, if_pos (by omega)]; simp at hq ⊢; exact .inr hq)
    by_cases hl : kids.length = kids'.length
    · have ih := nodesFs_same kids kids' (p ++ [a.length]) (p' ++ [a'.length]) [] [] (d || decide (k = 19)) (d' || decide (k' = 19)) r r' (by simp [hp]) (by simp) hl hlow2
      rw [ih]
      simp only [simN, simF, sameT, List.length_append, List.length_singleton, nm_mk, nul_mk, kind_mk, width_mk, id_mk, idx_mk, kids_mk]
      constructor
      · rintro ⟨⟨⟨h1, h2, h3, h4, h5, h6⟩, h7⟩, h8, h9⟩
        exact ⟨⟨fun h => h7 (by omega), h1, h2, h3, h4, h5, h8⟩, h9⟩
      · rintro ⟨⟨h7, h1, h2, h3, h4, h5, h8⟩, h9⟩
        exact ⟨⟨⟨h1, h2, h3, h4, h5, hl⟩, fun h => h7 (by omega)⟩, h8, h9⟩
    · constructor
      · rintro ⟨⟨⟨_, _, _, _, _, h6⟩, _⟩, _⟩
        exact absurd h6 hl
      · rintro ⟨⟨_, _, h8⟩, _⟩
        rw [sameT] at h8
        exact absurd (sameTs_len h8.2.2.2.2) hl
theorem nodesFs_same : ∀ (l m : List Fld) (p p' : List Nat) (a a' : List Fld) (d d' : Bool) (r r' : List Pl), p.length = p'.length → 1 ≤ p.length → l.length = m.length → lowL (nodesFs p a d l ++ r) →
    (All2 (nodesFs p a d l ++ r) (nodesFs p' a' d' m ++ r') ↔ sameTs l m ∧ All2 r r')
  | [], [], p, p', a, a', d, d', r, r', _, _, _, _ => by simp [nodesFs, sameTs]
  | [], g :: m, _, _, _, _, _, _, _, _, _, _, h, _ => by simp at h
  | f :: l, [], _, _, _, _, _, _, _, _, _, _, h, _ => by simp at h
  | f :: l, g :: m, p, p', a, a', d, d', r, r', hp, hp1, hl, hlow => by
    rw [nodesFs, nodesFs, List.append_assoc, List.append_assoc]
    rw [nodesFs, List.append_assoc] at hlow
    have h1 := nodesF_same f g p p' a a' d d' (nodesFs p (a ++ [f]) d l ++ r) (nodesFs p' (a' ++ [g]) d' m ++ r') hp hlow
    have h2 := nodesFs_same l m p p' (a ++ [f]) (a' ++ [g]) d d' r r' hp hp1 (by simpa using hl) (fun q hq => hlow q (List.mem_append.2 (.inr hq)))
    rw [h1, h2, sameTs]
    constructor
    · rintro ⟨⟨h1, h2, h3⟩, h4, h5⟩
      exact ⟨⟨h1 hp1, h2, h3, h4⟩, h5⟩
    · rintro ⟨⟨h1, h2, h3, h4⟩, h5⟩
      exact ⟨⟨fun _ => h1, h2, h3⟩, h4, h5⟩
end
theorem alike_iff (f g : Fld) (hf : lowL (nodesFs [] [] false [f])) : All2 (nodesFs [] [] false [f]) (nodesFs [] [] false [g]) ↔ f.nul = g.nul ∧ sameT f g := by
  have h := nodesF_same f g [] [] [] [] false false [] [] rfl (by rw [nodesFs, nodesFs] at hf; exact hf)
  rw [nodesFs, nodesFs, nodesFs, nodesFs, h]
  simp [All2]
-- emaX: s_bat
inductive PX : Bool → Fld → Bool → Fld → Prop
  | here (u : Bool) (c : Fld) : ¬ (c.kind = 19 ∨ c.kind = 20) → PX u c u c
  | down (u : Bool) (c d : Fld) (r : Bool) (g : Fld) : (c.kind = 19 ∨ c.kind = 20) → c.kids = [d] → PX (if c.kind = 19 then u else d.nul) d r g → PX u c r g
def plE (nm : ByteArray) (r : Bool) (g : Fld) : EV := .agg [.lit (.string nm), .lit (.bool r), .lit (.int .i64 g.kind), .lit (.int .i64 g.width), .lit (.int .i64 g.id), .lit (.int .i64 g.idx), .isl g.kids.length none (cellsFs g.kids)]
theorem PX.det {u : Bool} {c : Fld} {r r' : Bool} {g g' : Fld} (h : PX u c r g) (h' : PX u c r' g') : r = r' ∧ g = g' := by
  induction h with
  | here u c hn => cases h' with
    | here => exact ⟨rfl, rfl⟩
    | down _ _ _ _ _ hk => exact absurd hk hn
  | down u c d r g hk hc _ ih => cases h' with
    | here _ _ hn => exact absurd hk hn
    | down _ _ d' _ _ _ hc' hg => rw [hc] at hc'; cases hc'; exact ih hg
theorem px_ex : ∀ (n : Nat) (f : Fld) (u : Bool), SizeOf.sizeOf f ≤ n → allF f → ∃ r g, PX u f r g ∧ allF g ∧ ¬ (g.kind = 19 ∨ g.kind = 20) := by
  intro n
  induction n with
  | zero => intro f u h; cases f; simp at h
  | succ n ih =>
    rintro ⟨nm, nul, k, w, i, x, kids⟩ u hs h
    by_cases hk : k = 19 ∨ k = 20
    · obtain ⟨c, rfl⟩ := kid_of h.2.1 hk
      obtain ⟨r, g, h1, h2, h3⟩ := ih c (if k = 19 then u else c.nul) (by simp at hs; omega) h.2.2.2.1
      exact ⟨r, g, .down _ _ c _ _ hk rfl h1, h2, h3⟩
    · exact ⟨_, _, .here _ _ hk, h, hk⟩
set_option maxHeartbeats 4000000 in
theorem plainX_ok (f g : Fld) (r : Bool) (hall : allF f) (hcore : PX f.nul f r g) (h : EH) : Tri Tryz.prog gs 21 [.agg (cellsF f)] h fun v h' => v = plE f.nm r g ∧ h' = h := by
  have t : Tri Tryz.prog gs 21 [.agg (cellsF f)] [] fun v _ => v = plE f.nm r g := by
    refine Tri_of F21_ok fun I0 ρ0 w0 Q hρ hQ => ?_
    obtain ⟨A, hA⟩ : ∃ A, A = stdA := ⟨_, rfl⟩
    rw [cellsF_eq]
    have hcl := f
    obtain ⟨fk, hfk⟩ : ∃ c, c = cellsFs f.kids := ⟨_, rfl⟩
    obtain ⟨fn, hfn⟩ : ∃ c, c = f.kids.length := ⟨_, rfl⟩
    rw [← hfk, ← hfn]
    obtain ⟨fm, hfm⟩ : ∃ c, c = f.nm := ⟨_, rfl⟩
    obtain ⟨fu, hfu⟩ : ∃ c, c = f.nul := ⟨_, rfl⟩
    obtain ⟨k0, hk0⟩ : ∃ c, c = f.kind := ⟨_, rfl⟩
    obtain ⟨w0', hw0⟩ : ∃ c, c = f.width := ⟨_, rfl⟩
    obtain ⟨i0, hi0⟩ : ∃ c, c = f.id := ⟨_, rfl⟩
    obtain ⟨x0, hx0⟩ : ∃ c, c = f.idx := ⟨_, rfl⟩
    have hcore' := hcore
    rw [← hfu] at hcore'
    rw [← hfm, ← hfu, ← hk0, ← hw0, ← hi0, ← hx0]
    with_reducible refine runS hA hd hQ 200 ?hk ?_
    case hk => exact trivial
    conv => arg 9; cbv
    try simp only [OK]
    repeat' first | (with_reducible refine OKK.loop ?_) | (with_reducible refine OKK.again ?_) | ((with_reducible refine ⟨fun hbr => ?_, fun hbr => ?_⟩) <;> (try simp (disch := omega) only [hA, OK, emaU, Int.reduceToNat, s_bat, reduceCtorEq] at hbr) <;> (try (with_reducible exfalso; omega))) | ((with_reducible refine runK hA hd hQ 200 ?hk ?_); (case hk => exact trivial); (conv => arg 9; cbv); (try simp only [OK])) | ((with_reducible refine need_of ?hn ?_); (case hn => ((simp (disch := omega) only [hA, OK, emaU, Int.reduceToNat, s_bat]) <;> omega))) | fail
    refine OKs.mask (msk 31 [1, 2]) ?_
    refine OKs.loopN (fun n st => ∃ (c : Fld) (nul : Bool) (k w i x : Int) (kn : Nat) (kc : List EV), st = ⟨mkT 31 [(1, .ptr 0 0), (2, .ptr 1 0)], [.blk [.lit (.string fm), .lit (.bool nul), .lit (.int .i64 k), .lit (.int .i64 w), .lit (.int .i64 i), .lit (.int .i64 x), .isl kn none kc], .blk [.lit (.string ⟨#[]⟩), .lit (.bool false), .lit (.int .i64 0), .lit (.int .i64 0), .lit (.int .i64 0), .lit (.int .i64 0), .lit (.slice none 0 0)]]⟩ ∧ n = SizeOf.sizeOf c ∧ PX nul c r g ∧ allF c ∧ k = c.kind ∧ w = c.width ∧ i = c.id ∧ x = c.idx ∧ kn = c.kids.length ∧ kc = cellsFs c.kids) (fun n st hs' ih => ?_)
      ⟨f, _, _, _, _, _, _, _, rfl, rfl, hcore', hall, hk0, hw0, hi0, hx0, hfn, hfk⟩
    obtain ⟨c, nul, k, w, i, x, kn, kc, rfl, hnn, hco, hal, hk, hw, hi, hx, hkn, hkc⟩ := hs'
    cases hco with
    | here _ _ hn =>
      rw [← hk] at hn
      with_reducible refine runS hA hd hQ 200 ?hk ?_
      case hk => exact trivial
      conv => arg 9; cbv
      try simp only [OK]
      repeat' first | (with_reducible refine OKK.loop ?_) | (with_reducible refine OKK.again ?_) | ((with_reducible refine ⟨fun hbr => ?_, fun hbr => ?_⟩) <;> (try simp (disch := omega) only [hA, OK, emaU, Int.reduceToNat, s_bat, reduceCtorEq] at hbr) <;> (try (with_reducible exfalso; omega))) | ((with_reducible refine runK hA hd hQ 200 ?hk ?_); (case hk => exact trivial); (conv => arg 9; cbv); (try simp only [OK])) | ((with_reducible refine need_of ?hn ?_); (case hn => ((simp (disch := omega) only [hA, OK, emaU, Int.reduceToNat, s_bat]) <;> omega))) | fail
      exact FinR.intro rfl (by show EV.agg [.lit (.string fm), _, _, _, _, _, _] = _; rw [plE, ← hk, ← hw, ← hi, ← hx, ← hkn, ← hkc, ← hfm])
    | down _ _ d _ _ h19 hkid hcd =>
      have hsz : SizeOf.sizeOf d < SizeOf.sizeOf c := by
        obtain ⟨a1, a2, a3, a4, a5, a6, a7⟩ := c
        simp only [kids_mk] at hkid
        subst hkid
        simp
        omega
      have hald : allF d := by
        obtain ⟨a1, a2, a3, a4, a5, a6, a7⟩ := c
        simp only [kids_mk] at hkid
        subst hkid
        exact hal.2.2.2.1
      rw [← hk] at h19
      have hcd1 : k = 19 → PX nul d r g := fun h => by rw [← hk, if_pos h] at hcd; exact hcd
      have hcd2 : k ≠ 19 → PX d.nul d r g := fun h => by rw [← hk, if_neg h] at hcd; exact hcd
      have hkn1 : kn = 1 := by rw [hkn, hkid]; rfl
      have hL : List.take 7 (List.drop (A.idx 0 0 7) kc) = cellsF d := by rw [hA, hkc, hkid]; simp only [s_idx, Int.reduceToNat, Nat.zero_mul, Nat.zero_add, List.drop_zero, cellsFs, List.append_nil]; rw [List.take_of_length_le (by rw [cellsF_length]; omega)]
      rw [cellsF_eq] at hL
      obtain ⟨dn, hdn⟩ : ∃ c, c = d.kids.length := ⟨_, rfl⟩
      obtain ⟨dc, hdc⟩ : ∃ c, c = cellsFs d.kids := ⟨_, rfl⟩
      obtain ⟨dm, hdm⟩ : ∃ c, c = d.nm := ⟨_, rfl⟩
      obtain ⟨du, hdu⟩ : ∃ c, c = d.nul := ⟨_, rfl⟩
      obtain ⟨dk, hdk⟩ : ∃ c, c = d.kind := ⟨_, rfl⟩
      obtain ⟨dw, hdw⟩ : ∃ c, c = d.width := ⟨_, rfl⟩
      obtain ⟨di, hdi⟩ : ∃ c, c = d.id := ⟨_, rfl⟩
      obtain ⟨dx, hdx⟩ : ∃ c, c = d.idx := ⟨_, rfl⟩
      rw [← hdn, ← hdc, ← hdm, ← hdu, ← hdk, ← hdw, ← hdi, ← hdx] at hL
      rw [← hdu] at hcd2
      with_reducible refine runS hA hd hQ 200 ?hk ?_
      case hk => exact trivial
      conv => arg 9; cbv
      try simp only [OK]
      repeat' first | (with_reducible refine OKK.loop ?_) | (with_reducible refine OKK.again ?_) | ((with_reducible refine ⟨fun hbr => ?_, fun hbr => ?_⟩) <;> (try simp (disch := omega) only [hA, OK, emaU, Int.reduceToNat, s_bat, reduceCtorEq] at hbr) <;> (try (with_reducible exfalso; omega))) | ((with_reducible refine runK hA hd hQ 200 ?hk ?_); (case hk => exact trivial); (conv => arg 9; cbv); (try simp only [OK])) | ((with_reducible refine need_of ?hn ?_); (case hn => ((simp (disch := omega) only [hA, OK, emaU, Int.reduceToNat, s_bat]) <;> omega))) | ((refine ⟨_, _, ?l1, hL, rfl, ?_⟩); (case l1 => exact rfl)) | fail
      all_goals exact OKs.mask (msk 31 [1, 2]) (OKs.mv [0, 1] [] (by rw [hρ]; rfl) ⟨by decide, by simp [sizeH], by simp⟩ (ih _ _ ⟨d, _, dk, dw, di, dx, dn, dc, rfl, rfl, (by first | exact hcd1 (by omega) | exact hcd2 (by omega)), hald, hdk, hdw, hdi, hdx, hdn, hdc⟩ (by rw [hnn]; exact hsz)))
  exact Tri.litC (fun v hv => by rw [hv]; rfl) (by rw [cellsF_eq]; rfl) t h
set_option maxHeartbeats 4000000 in
theorem plainXR_ok (f g : Fld) (r : Bool) (hall : allF f) (hcore : PX f.nul f r g) (h : EH) : Tri Tryz.prog gs 12 [.agg (cellsF f)] h fun v h' => v = plE f.nm r g ∧ h' = h := by
  have t : Tri Tryz.prog gs 12 [.agg (cellsF f)] [] fun v _ => v = plE f.nm r g := by
    refine Tri_of F12_ok fun I0 ρ0 w0 Q hρ hQ => ?_
    obtain ⟨A, hA⟩ : ∃ A, A = stdA := ⟨_, rfl⟩
    rw [cellsF_eq]
    have hcl := f
    obtain ⟨fk, hfk⟩ : ∃ c, c = cellsFs f.kids := ⟨_, rfl⟩
    obtain ⟨fn, hfn⟩ : ∃ c, c = f.kids.length := ⟨_, rfl⟩
    rw [← hfk, ← hfn]
    obtain ⟨fm, hfm⟩ : ∃ c, c = f.nm := ⟨_, rfl⟩
    obtain ⟨fu, hfu⟩ : ∃ c, c = f.nul := ⟨_, rfl⟩
    obtain ⟨k0, hk0⟩ : ∃ c, c = f.kind := ⟨_, rfl⟩
    obtain ⟨w0', hw0⟩ : ∃ c, c = f.width := ⟨_, rfl⟩
    obtain ⟨i0, hi0⟩ : ∃ c, c = f.id := ⟨_, rfl⟩
    obtain ⟨x0, hx0⟩ : ∃ c, c = f.idx := ⟨_, rfl⟩
    have hcore' := hcore
    rw [← hfu] at hcore'
    rw [← hfm, ← hfu, ← hk0, ← hw0, ← hi0, ← hx0]
    with_reducible refine runS hA hd hQ 200 ?hk ?_
    case hk => exact trivial
    conv => arg 9; cbv
    try simp only [OK]
    repeat' first | (with_reducible refine OKK.loop ?_) | (with_reducible refine OKK.again ?_) | ((with_reducible refine ⟨fun hbr => ?_, fun hbr => ?_⟩) <;> (try simp (disch := omega) only [hA, OK, emaU, Int.reduceToNat, s_bat, reduceCtorEq] at hbr) <;> (try (with_reducible exfalso; omega))) | ((with_reducible refine runK hA hd hQ 200 ?hk ?_); (case hk => exact trivial); (conv => arg 9; cbv); (try simp only [OK])) | ((with_reducible refine need_of ?hn ?_); (case hn => ((simp (disch := omega) only [hA, OK, emaU, Int.reduceToNat, s_bat]) <;> omega))) | fail
    refine OKs.mask (msk 43 [1, 2]) ?_
    refine OKs.loopN (fun n st => ∃ (c : Fld) (nul : Bool) (k w i x : Int) (kn : Nat) (kc : List EV), st = ⟨mkT 43 [(1, .ptr 0 0), (2, .ptr 1 0)], [.blk [.lit (.string fm), .lit (.bool nul), .lit (.int .i64 k), .lit (.int .i64 w), .lit (.int .i64 i), .lit (.int .i64 x), .isl kn none kc], .blk [.lit (.string ⟨#[]⟩), .lit (.bool false), .lit (.int .i64 0), .lit (.int .i64 0), .lit (.int .i64 0), .lit (.int .i64 0), .lit (.slice none 0 0)]]⟩ ∧ n = SizeOf.sizeOf c ∧ PX nul c r g ∧ allF c ∧ k = c.kind ∧ w = c.width ∧ i = c.id ∧ x = c.idx ∧ kn = c.kids.length ∧ kc = cellsFs c.kids) (fun n st hs' ih => ?_)
      ⟨f, _, _, _, _, _, _, _, rfl, rfl, hcore', hall, hk0, hw0, hi0, hx0, hfn, hfk⟩
    obtain ⟨c, nul, k, w, i, x, kn, kc, rfl, hnn, hco, hal, hk, hw, hi, hx, hkn, hkc⟩ := hs'
    cases hco with
    | here _ _ hn =>
      rw [← hk] at hn
      with_reducible refine runS hA hd hQ 200 ?hk ?_
      case hk => exact trivial
      conv => arg 9; cbv
      try simp only [OK]
      repeat' first | (with_reducible refine OKK.loop ?_) | (with_reducible refine OKK.again ?_) | ((with_reducible refine ⟨fun hbr => ?_, fun hbr => ?_⟩) <;> (try simp (disch := omega) only [hA, OK, emaU, Int.reduceToNat, s_bat, reduceCtorEq] at hbr) <;> (try (with_reducible exfalso; omega))) | ((with_reducible refine runK hA hd hQ 200 ?hk ?_); (case hk => exact trivial); (conv => arg 9; cbv); (try simp only [OK])) | ((with_reducible refine need_of ?hn ?_); (case hn => ((simp (disch := omega) only [hA, OK, emaU, Int.reduceToNat, s_bat]) <;> omega))) | fail
      exact FinR.intro rfl (by show EV.agg [.lit (.string fm), _, _, _, _, _, _] = _; rw [plE, ← hk, ← hw, ← hi, ← hx, ← hkn, ← hkc, ← hfm])
    | down _ _ d _ _ h19 hkid hcd =>
      have hsz : SizeOf.sizeOf d < SizeOf.sizeOf c := by
        obtain ⟨a1, a2, a3, a4, a5, a6, a7⟩ := c
        simp only [kids_mk] at hkid
        subst hkid
        simp
        omega
      have hald : allF d := by
        obtain ⟨a1, a2, a3, a4, a5, a6, a7⟩ := c
        simp only [kids_mk] at hkid
        subst hkid
        exact hal.2.2.2.1
      rw [← hk] at h19
      have hcd1 : k = 19 → PX nul d r g := fun h => by rw [← hk, if_pos h] at hcd; exact hcd
      have hcd2 : k ≠ 19 → PX d.nul d r g := fun h => by rw [← hk, if_neg h] at hcd; exact hcd
      have hkn1 : kn = 1 := by rw [hkn, hkid]; rfl
      have hL : List.take 7 (List.drop (A.idx 0 0 7) kc) = cellsF d := by rw [hA, hkc, hkid]; simp only [s_idx, Int.reduceToNat, Nat.zero_mul, Nat.zero_add, List.drop_zero, cellsFs, List.append_nil]; rw [List.take_of_length_le (by rw [cellsF_length]; omega)]
      rw [cellsF_eq] at hL
      obtain ⟨dn, hdn⟩ : ∃ c, c = d.kids.length := ⟨_, rfl⟩
      obtain ⟨dc, hdc⟩ : ∃ c, c = cellsFs d.kids := ⟨_, rfl⟩
      obtain ⟨dm, hdm⟩ : ∃ c, c = d.nm := ⟨_, rfl⟩
      obtain ⟨du, hdu⟩ : ∃ c, c = d.nul := ⟨_, rfl⟩
      obtain ⟨dk, hdk⟩ : ∃ c, c = d.kind := ⟨_, rfl⟩
      obtain ⟨dw, hdw⟩ : ∃ c, c = d.width := ⟨_, rfl⟩
      obtain ⟨di, hdi⟩ : ∃ c, c = d.id := ⟨_, rfl⟩
      obtain ⟨dx, hdx⟩ : ∃ c, c = d.idx := ⟨_, rfl⟩
      rw [← hdn, ← hdc, ← hdm, ← hdu, ← hdk, ← hdw, ← hdi, ← hdx] at hL
      rw [← hdu] at hcd2
      with_reducible refine runS hA hd hQ 200 ?hk ?_
      case hk => exact trivial
      conv => arg 9; cbv
      try simp only [OK]
      repeat' first | (with_reducible refine OKK.loop ?_) | (with_reducible refine OKK.again ?_) | ((with_reducible refine ⟨fun hbr => ?_, fun hbr => ?_⟩) <;> (try simp (disch := omega) only [hA, OK, emaU, Int.reduceToNat, s_bat, reduceCtorEq] at hbr) <;> (try (with_reducible exfalso; omega))) | ((with_reducible refine runK hA hd hQ 200 ?hk ?_); (case hk => exact trivial); (conv => arg 9; cbv); (try simp only [OK])) | ((with_reducible refine need_of ?hn ?_); (case hn => ((simp (disch := omega) only [hA, OK, emaU, Int.reduceToNat, s_bat]) <;> omega))) | ((refine ⟨_, _, ?l1, hL, rfl, ?_⟩); (case l1 => exact rfl)) | fail
      all_goals exact OKs.mask (msk 43 [1, 2]) (OKs.mv [0, 1] [] (by rw [hρ]; rfl) ⟨by decide, by simp [sizeH], by simp⟩ (ih _ _ ⟨d, _, dk, dw, di, dx, dn, dc, rfl, rfl, (by first | exact hcd1 (by omega) | exact hcd2 (by omega)), hald, hdk, hdw, hdi, hdx, hdn, hdc⟩ (by rw [hnn]; exact hsz)))
  exact Tri.litC (fun v hv => by rw [hv]; rfl) (by rw [cellsF_eq]; rfl) t h
-- emaX: s_bat
def hold (g : Fld) : Fld := .mk ⟨#[97]⟩ (decide (g.kind = 1)) g.kind g.width g.id g.idx g.kids
def tyC (g : Fld) : List EV := [.lit (.int .i64 g.kind), .lit (.int .i64 g.width), .lit (.int .i64 g.id), .lit (.int .i64 g.idx), .isl g.kids.length none (cellsFs g.kids)]
theorem hold_cells (g : Fld) : cellsF (hold g) = .lit (.string ⟨#[97]⟩) :: .lit (.bool (decide (g.kind = 1))) :: tyC g := by
  obtain ⟨nm, nul, k, w, i, x, kids⟩ := g; rfl
theorem hold_ok {g : Fld} (h : okF g) : okF (hold g) := by
  obtain ⟨nm, nul, k, w, i, x, kids⟩ := g
  exact ⟨by decide, h.2⟩
set_option maxHeartbeats 4000000 in
theorem holder_ok (g : Fld) (hk : g.kind ≠ 20) (h : EH) : Tri Tryz.prog gs 132 [.agg (tyC g)] h fun v h' => v = .agg (cellsF (hold g)) ∧ h' = h := by
  rw [hold_cells]
  unfold tyC
  generalize cellsFs g.kids = kc, g.kids.length = kn, g.kind = k, g.width = w, g.id = i, g.idx = x at *
  refine Tri.valK rfl rfl (Tri_of F132_ok fun I0 ρ0 w0 Q hρ hQ => ?_) h
  obtain ⟨A, hA⟩ : ∃ A, A = stdA := ⟨_, rfl⟩
  with_reducible refine runS hA hd hQ 200 ?hk ?_
  case hk => exact trivial
  conv => arg 9; cbv
  try simp only [OK]
  repeat' first | ((with_reducible refine ⟨fun hbr => ?_, fun hbr => ?_⟩) <;> (try simp (disch := omega) only [hA, OK, emaU, Int.reduceToNat, s_bat, reduceCtorEq] at hbr) <;> (try (with_reducible exfalso; omega))) | ((with_reducible refine runK hA hd hQ 200 ?hk ?_); (case hk => exact trivial); (conv => arg 9; cbv); (try simp only [OK])) | ((with_reducible refine need_of ?hn ?_); (case hn => ((simp (disch := omega) only [hA, OK, emaU, Int.reduceToNat, s_bat]) <;> omega))) | fail
  · exact FinR.intro rfl (by rw [show decide (k = 1) = true from decide_eq_true (by omega)])
  · exact FinR.intro rfl (by rw [show decide (k = 1) = false from decide_eq_false (by omega)])
theorem mayType_ok (g : Fld) (hok : okF g) (hk : g.kind ≠ 20) (h : EH) : Tri Tryz.prog gs 93 [.agg (tyC g)] h fun v h' => IsP (mayF (hold g)) v ∧ h' = h := by
  have hh := holder_ok g hk
  have hc := checkField_ok (hold g) (hold_ok hok)
  rw [hold_cells] at hh hc
  unfold tyC at *
  generalize cellsFs g.kids = kc, g.kids.length = kn, decide (g.kind = 1) = b, g.kind = k, g.width = w, g.id = i, g.idx = x at *
  refine Tri.boolC rfl (Tri_of F93_ok fun I0 ρ0 w0 Q hρ hQ => ?_) h
  obtain ⟨A, hA⟩ : ∃ A, A = stdA := ⟨_, rfl⟩
  with_reducible refine runS hA hd hQ 200 ?hk ?_
  case hk => exact trivial
  conv => arg 9; cbv
  try simp only [OK]
  repeat' first | ((with_reducible refine ⟨fun hbr => ?_, fun hbr => ?_⟩) <;> (try simp (disch := omega) only [hA, OK, emaU, Int.reduceToNat, s_bat, reduceCtorEq] at hbr) <;> (try (with_reducible exfalso; omega))) | ((with_reducible refine runK hA hd hQ 200 ?hk ?_); (case hk => exact trivial); (conv => arg 9; cbv); (try simp only [OK])) | ((with_reducible refine need_of ?hn ?_); (case hn => ((simp (disch := omega) only [hA, OK, emaU, Int.reduceToNat, s_bat]) <;> omega))) | fail
  refine CallOK.of (goodF_of F132_ok) (Tri.mono (hh _) fun v hh hx => ?_)
  obtain ⟨hv, hh'⟩ := hx
  subst hv; subst hh'
  with_reducible refine runK hA hd hQ 1 ?hk ?_
  case hk => exact trivial
  conv => arg 9; cbv
  try simp only [OK]
  repeat' first | ((with_reducible refine ⟨fun hbr => ?_, fun hbr => ?_⟩) <;> (try simp (disch := omega) only [hA, OK, emaU, Int.reduceToNat, s_bat, reduceCtorEq] at hbr) <;> (try (with_reducible exfalso; omega))) | ((with_reducible refine runK hA hd hQ 200 ?hk ?_); (case hk => exact trivial); (conv => arg 9; cbv); (try simp only [OK])) | ((with_reducible refine need_of ?hn ?_); (case hn => ((simp (disch := omega) only [hA, OK, emaU, Int.reduceToNat, s_bat]) <;> omega))) | fail
  refine CallOK.of (goodF_of F20_ok) (Tri.mono (hc _) fun v hh hx => ?_)
  obtain ⟨⟨e, at', pn, pc, hv, he⟩, hh'⟩ := hx
  subst hv; subst hh'
  with_reducible refine runK hA hd hQ 1 ?hk ?_
  case hk => exact trivial
  conv => arg 9; cbv
  try simp only [OK]
  repeat' first | ((with_reducible refine ⟨fun hbr => ?_, fun hbr => ?_⟩) <;> (try simp (disch := omega) only [hA, OK, emaU, Int.reduceToNat, s_bat, reduceCtorEq] at hbr) <;> (try (with_reducible exfalso; omega))) | ((with_reducible refine runK hA hd hQ 200 ?hk ?_); (case hk => exact trivial); (conv => arg 9; cbv); (try simp only [OK])) | ((with_reducible refine need_of ?hn ?_); (case hn => ((simp (disch := omega) only [hA, OK, emaU, Int.reduceToNat, s_bat]) <;> omega))) | fail
  all_goals (try (with_reducible refine FinR.self ?_; first | refine FinR.bl rfl ?_ | refine FinR.bs rfl ?_ | refine FinR.blh rfl ?_ rfl | refine FinR.bsh rfl ?_ rfl))
  all_goals (try simp (disch := omega) only [hA, OK, emaU, Int.reduceToNat, s_bat, Bool.false_eq_true, true_iff, false_iff, eq_self, iff_true, iff_false])
  all_goals exact he
structure PF where
  nm : ByteArray
  nul : Bool
  g : Fld
def PF.cells (p : PF) : List EV := .lit (.string p.nm) :: .lit (.bool p.nul) :: tyC p.g
def pf0 : PF := ⟨⟨#[]⟩, false, fld0⟩
theorem plE_eq (nm : ByteArray) (r : Bool) (g : Fld) : plE nm r g = .agg (PF.cells ⟨nm, r, g⟩) := rfl
def cellsPF : List PF → List EV
  | [] => []
  | p :: l => p.cells ++ cellsPF l
theorem pf_len (p : PF) : p.cells.length = 7 := rfl
theorem cellsPF_len : ∀ l : List PF, (cellsPF l).length = 7 * l.length
  | [] => rfl
  | p :: l => by simp only [cellsPF, List.length_append, pf_len, cellsPF_len l, List.length_cons]; omega
theorem cellsPF_app (l m : List PF) : cellsPF (l ++ m) = cellsPF l ++ cellsPF m := by
  induction l with
  | nil => rfl
  | cons p l ih => simp [cellsPF, ih]
theorem clPF : ∀ l : List PF, clL (cellsPF l) = true
  | [] => rfl
  | p :: l => clL_of fun x hx => by
    rw [cellsPF] at hx
    rcases List.mem_append.1 hx with hx | hx
    · obtain ⟨j, hj⟩ := List.getElem?_of_mem hx; exact clL_get (l := p.cells) rfl j x hj
    · obtain ⟨j, hj⟩ := List.getElem?_of_mem hx; exact clL_get (clPF l) j x hj
theorem pf_get : ∀ (l : List PF) (i : Nat), i < l.length → ((cellsPF l).drop (i * 7)).take 7 = (l.getD i pf0).cells
  | [], i, h => by simp at h
  | p :: l, 0, _ => by
    simp only [cellsPF, Nat.zero_mul, List.drop_zero, List.getD_cons_zero]
    rw [List.take_append_of_le_length (by rw [pf_len]; omega), List.take_of_length_le (by rw [pf_len]; omega)]
  | p :: l, i + 1, h => by
    have ih := pf_get l i (by simpa using h)
    rw [cellsPF, List.drop_append, List.drop_eq_nil_of_le (by rw [pf_len]; omega), pf_len, List.nil_append, show (i + 1) * 7 - 7 = i * 7 by omega, ih]
    rfl
open Classical in
noncomputable def plF (f : Fld) : PF := if h : ∃ rg : Bool × Fld, PX f.nul f rg.1 rg.2 then ⟨f.nm, (Classical.choose h).1, (Classical.choose h).2⟩ else pf0
theorem plF_eq {f : Fld} {r : Bool} {g : Fld} (h : PX f.nul f r g) : plF f = ⟨f.nm, r, g⟩ := by
  have hx : ∃ rg : Bool × Fld, PX f.nul f rg.1 rg.2 := ⟨(r, g), h⟩
  obtain ⟨h1, h2⟩ := (Classical.choose_spec hx).det h
  rw [plF, dif_pos hx, h1, h2]
def zt (k : Int) : Fld := .mk ⟨#[]⟩ false k 0 0 0 []
def alikeP (a b : Fld) : Prop := mayF (hold a) ∧ mayF (hold b) ∧ sameT a b
def argsN (op : Int) : Int := if op = 6 ∨ op = 15 ∨ op = 16 ∨ op = 20 then 1 else if op = 18 then 3 else if 1 ≤ op ∧ op ≤ 22 then 2 else 0
open Classical in
noncomputable def typeS (op : Int) (p : List PF) : Option (Bool × Fld) :=
  let a := p.getD 0 pf0
  let b := p.getD 1 pf0
  let c := p.getD 2 pf0
  if 1 ≤ op ∧ op ≤ 4 then if b.g.kind = a.g.kind ∧ 3 ≤ a.g.kind ∧ a.g.kind ≤ 11 then some (a.nul || b.nul, zt a.g.kind) else none
  else if op = 5 then if b.g.kind = a.g.kind ∧ 3 ≤ a.g.kind ∧ a.g.kind ≤ 10 then some (a.nul || b.nul, zt a.g.kind) else none
  else if op = 6 then if 3 ≤ a.g.kind ∧ a.g.kind ≤ 6 ∨ a.g.kind = 11 then some (a.nul, zt a.g.kind) else none
  else if 7 ≤ op ∧ op ≤ 12 then if alikeP a.g b.g then some (a.nul || b.nul, zt 2) else none
  else if op = 13 ∨ op = 14 then if a.g.kind = 2 ∧ b.g.kind = 2 then some (a.nul || b.nul, zt 2) else none
  else if op = 15 then if a.g.kind = 2 then some (a.nul, zt 2) else none
  else if op = 16 then some (false, zt 2)
  else if op = 17 then if alikeP a.g b.g then some (a.nul && b.nul, a.g) else none
  else if op = 18 then if a.g.kind = 2 ∧ alikeP b.g c.g then some (b.nul || c.nul, b.g) else none
  else if op = 19 then if b.g.kind = a.g.kind ∧ (a.g.kind = 12 ∨ a.g.kind = 13) then some (a.nul || b.nul, zt a.g.kind) else none
  else if op = 20 then if 12 ≤ a.g.kind ∧ a.g.kind ≤ 16 then some (a.nul, zt 6) else none
  else if op = 21 ∨ op = 22 then if b.g.kind = a.g.kind ∧ (a.g.kind = 12 ∨ a.g.kind = 13) then some (a.nul || b.nul, zt 2) else none
  else none
def named (nm : ByteArray) (x : Bool × Fld) : Fld := .mk nm x.1 x.2.kind x.2.width x.2.id x.2.idx x.2.kids
open Classical in
noncomputable def typeR (op : Int) (l : List Fld) : Fld × Int :=
  if argsN op = 0 ∨ (l.length : Int) ≠ argsN op then (fld0, 1) else
  if ∃ f ∈ l, ¬ mayF f then (fld0, 5) else
  match typeS op (l.map plF) with
  | none => (fld0, 5)
  | some x => if mayF (named (l.getD 0 fld0).nm x) then (named (l.getD 0 fld0).nm x, 0) else (fld0, 5)
-- emaX: s_bat
set_option maxHeartbeats 4000000 in
theorem sameNodeR_ok (a b : Fld) (h : EH) : Tri Tryz.prog gs 75 [.agg (cellsF a), .agg (cellsF b)] h fun v h' => IsP (simF a b) v ∧ h' = h := by
  rw [cellsF_eq, cellsF_eq]
  unfold simF
  generalize cellsFs a.kids = kc, a.kids.length = kn, a.nm = nm, a.kind = k, a.width = w, a.id = i, a.idx = x at *
  generalize cellsFs b.kids = kc', b.kids.length = kn', b.nm = nm', b.kind = k', b.width = w', b.id = i', b.idx = x', a.nul = u, b.nul = u' at *
  refine Tri.boolC rfl (Tri_of F75_ok fun I0 ρ0 w0 Q hρ hQ => ?_) h
  obtain ⟨A, hA⟩ : ∃ A, A = stdA := ⟨_, rfl⟩
  cases u <;> cases u'
  all_goals
    with_reducible refine runS hA hd hQ 200 ?hk ?_
    case hk => exact trivial
    conv => arg 9; cbv
    try simp only [OK]
    repeat' first | (with_reducible refine And.intro trivial ?_) | ((with_reducible refine ⟨fun hbr => ?_, fun hbr => ?_⟩) <;> (try simp (disch := omega) only [hA, OK, emaU, Int.reduceToNat, s_bat, reduceCtorEq , Bool.true_beq, Bool.false_beq, Bool.not_true, Bool.not_false] at hbr) <;> (try (with_reducible exfalso; omega))) | ((with_reducible refine runK hA hd hQ 200 ?hk ?_); (case hk => exact trivial); (conv => arg 9; cbv); (try simp only [OK])) | ((with_reducible refine need_of ?hn ?_); (case hn => ((simp (disch := omega) only [hA, OK, emaU, Int.reduceToNat, s_bat , Bool.true_beq, Bool.false_beq, Bool.not_true, Bool.not_false]) <;> omega))) | fail
    all_goals (try (with_reducible refine FinR.self ?_; first | refine FinR.bl rfl ?_ | refine FinR.bs rfl ?_ | refine FinR.blh rfl ?_ rfl | refine FinR.bsh rfl ?_ rfl))
    all_goals (try simp (disch := omega) only [hA, OK, emaU, Int.reduceToNat, s_bat, Bool.false_eq_true, true_iff, false_iff, eq_self, iff_true, iff_false])
  all_goals first
    | omega
    | (simp <;> omega)
theorem holderR_ok (g : Fld) (hk : g.kind ≠ 20) (h : EH) : Tri Tryz.prog gs 52 [.agg (tyC g)] h fun v h' => v = .agg (cellsF (hold g)) ∧ h' = h := by
  rw [hold_cells]
  unfold tyC
  generalize cellsFs g.kids = kc, g.kids.length = kn, g.kind = k, g.width = w, g.id = i, g.idx = x at *
  refine Tri.valK rfl rfl (Tri_of F52_ok fun I0 ρ0 w0 Q hρ hQ => ?_) h
  obtain ⟨A, hA⟩ : ∃ A, A = stdA := ⟨_, rfl⟩
  with_reducible refine runS hA hd hQ 200 ?hk ?_
  case hk => exact trivial
  conv => arg 9; cbv
  try simp only [OK]
  repeat' first | ((with_reducible refine ⟨fun hbr => ?_, fun hbr => ?_⟩) <;> (try simp (disch := omega) only [hA, OK, emaU, Int.reduceToNat, s_bat, reduceCtorEq] at hbr) <;> (try (with_reducible exfalso; omega))) | ((with_reducible refine runK hA hd hQ 200 ?hk ?_); (case hk => exact trivial); (conv => arg 9; cbv); (try simp only [OK])) | ((with_reducible refine need_of ?hn ?_); (case hn => ((simp (disch := omega) only [hA, OK, emaU, Int.reduceToNat, s_bat]) <;> omega))) | fail
  · exact FinR.intro rfl (by rw [show decide (k = 1) = true from decide_eq_true (by omega)])
  · exact FinR.intro rfl (by rw [show decide (k = 1) = false from decide_eq_false (by omega)])
theorem mayTypeR_ok (g : Fld) (hok : okF g) (hk : g.kind ≠ 20) (h : EH) : Tri Tryz.prog gs 50 [.agg (tyC g)] h fun v h' => IsP (mayF (hold g)) v ∧ h' = h := by
  have hh := holderR_ok g hk
  have hc := mayBeR_ok (hold g) (hold_ok hok)
  rw [hold_cells] at hh hc
  unfold tyC at *
  generalize cellsFs g.kids = kc, g.kids.length = kn, decide (g.kind = 1) = b, g.kind = k, g.width = w, g.id = i, g.idx = x at *
  refine Tri.boolC rfl (Tri_of F50_ok fun I0 ρ0 w0 Q hρ hQ => ?_) h
  obtain ⟨A, hA⟩ : ∃ A, A = stdA := ⟨_, rfl⟩
  with_reducible refine runS hA hd hQ 200 ?hk ?_
  case hk => exact trivial
  conv => arg 9; cbv
  try simp only [OK]
  repeat' first | ((with_reducible refine ⟨fun hbr => ?_, fun hbr => ?_⟩) <;> (try simp (disch := omega) only [hA, OK, emaU, Int.reduceToNat, s_bat, reduceCtorEq] at hbr) <;> (try (with_reducible exfalso; omega))) | ((with_reducible refine runK hA hd hQ 200 ?hk ?_); (case hk => exact trivial); (conv => arg 9; cbv); (try simp only [OK])) | ((with_reducible refine need_of ?hn ?_); (case hn => ((simp (disch := omega) only [hA, OK, emaU, Int.reduceToNat, s_bat]) <;> omega))) | fail
  refine CallOK.of (goodF_of F52_ok) (Tri.mono (hh _) fun v hh hx => ?_)
  obtain ⟨hv, hh'⟩ := hx
  subst hv; subst hh'
  with_reducible refine runK hA hd hQ 1 ?hk ?_
  case hk => exact trivial
  conv => arg 9; cbv
  try simp only [OK]
  repeat' first | ((with_reducible refine ⟨fun hbr => ?_, fun hbr => ?_⟩) <;> (try simp (disch := omega) only [hA, OK, emaU, Int.reduceToNat, s_bat, reduceCtorEq] at hbr) <;> (try (with_reducible exfalso; omega))) | ((with_reducible refine runK hA hd hQ 200 ?hk ?_); (case hk => exact trivial); (conv => arg 9; cbv); (try simp only [OK])) | ((with_reducible refine need_of ?hn ?_); (case hn => ((simp (disch := omega) only [hA, OK, emaU, Int.reduceToNat, s_bat]) <;> omega))) | (refine CallOK.of (goodF_of F11_ok) (Tri.mono (hc _) fun v hh hx => ?_); (obtain ⟨⟨b, hv, hb⟩, he⟩ := hx; subst hv; subst he; cases b <;> simp (disch := omega) only [hA, OK, emaU, Int.reduceToNat, s_bat, Bool.false_eq_true, true_iff, false_iff, eq_self, reduceCtorEq] at hb) <;> (try (with_reducible exfalso; omega))) | fail
  all_goals (try (with_reducible refine FinR.self ?_; first | refine FinR.bl rfl ?_ | refine FinR.bs rfl ?_ | refine FinR.blh rfl ?_ rfl | refine FinR.bsh rfl ?_ rfl))
  all_goals (try simp (disch := omega) only [hA, OK, emaU, Int.reduceToNat, s_bat, Bool.false_eq_true, true_iff, false_iff, eq_self, iff_true, iff_false])
  all_goals assumption
def IsD (all : List Pl) (v : EV) : Prop := ∃ ds : List Nd, v = .isl ds.length none (cellsDs ds) ∧ ds.map Nd.p = all ∧ ∀ d ∈ ds, okD d
theorem growC_ok (l : List Fld) (hokl : okFs l) (hll : l.length ≤ 140737488351232) (h : EH) :
    Tri Tryz.prog gs 74 [.isl l.length none (cellsFs l), .lit (.slice none 0 0), .lit (.bool false), .lit (.slice none 0 0)] h fun v h' => IsD ((nodesFs [] [] false l).take 257) v ∧ h' = h := by
  have t1 := Tri.mv (R' := fun v h' => ∃ v', IsD ((nodesFs [] [] false l).take 257) v' ∧ Up v v') (grow_top l l.length (cellsFs l) hokl hll rfl rfl) fun v h' hr => by
    obtain ⟨ds, bn, bc, hbn, hbc, hds, hdok, hor⟩ := hr
    rcases hor with ⟨e0, e1, e2⟩ | ⟨e1, e2⟩ <;> subst e1 <;> subst e2
    · have h0 : ds = [] := List.length_eq_zero_iff.1 (hbn.symm.trans e0)
      exact ⟨[], [], rfl, ⟨by simp, by simp, by simp⟩, .isl 0 none [], ⟨ds, by rw [h0]; rfl, hds, hdok⟩, Up.nil _⟩
    · refine ⟨[], [0], rfl, ⟨by simp, by simp, fun id hid => by simp at hid; subst hid; exact ⟨_, rfl, by rw [hbc]; exact clDs ds⟩⟩, .isl bn none bc, ⟨ds, by rw [hbn, hbc], hds, hdok⟩, ?_⟩
      exact Up.refl _
  exact Tri.litC (φ := IsD _) (fun v ⟨ds, e, _⟩ => by rw [e]; rfl) rfl (Tri.up t1 fun v h' ⟨v', h1, h2⟩ => ⟨v', h1, h2⟩) h
-- emaX: s_bat, s_eqlB, s_neqB
theorem nd_part {ds : List Nd} {i o k : Nat} (h : i < ds.length) (hk : o + k ≤ 10) : ((cellsDs ds).drop (i * 10 + o)).take k = ((cellsD (ds.getD i nd0)).drop o).take k := by
  rw [← ds_get ds i h, List.drop_take, List.take_take, Nat.min_eq_left (by omega), List.drop_drop]
theorem getD_p (ds : List Nd) (j : Nat) : (ds.map Nd.p).getD j nd0.p = (ds.getD j nd0).p := by
  simp only [List.getD_eq_getElem?_getD, List.getElem?_map]
  cases ds[j]? <;> rfl
theorem All2_nd {ds es : List Nd} : All2 (ds.map Nd.p) (es.map Nd.p) ↔ ds.length = es.length ∧ ∀ j, j < ds.length → simN (ds.getD j nd0).p (es.getD j nd0).p := by
  rw [All2_iff nd0.p]
  simp only [getD_p, List.length_map]
set_option maxHeartbeats 8000000 in
theorem alikeL_ok (f g : Fld) (hf : okF f) (hg : okF g) (hl : lowL (nodesFs [] [] false [f])) (hnf : (nodesFs [] [] false [f]).length ≤ 257) (hng : (nodesFs [] [] false [g]).length ≤ 257) (h : EH) :
    Tri Tryz.prog gs 51 [.isl 1 none (cellsF f), .isl 1 none (cellsF g), .lit (.bool false)] h fun v h' => IsP (f.nul = g.nul ∧ sameT f g) v ∧ h' = h := by
  rw [← alike_iff f g hl]
  have h1 := growC_ok [f] ⟨hf, trivial⟩ (by simp)
  have h2 := growC_ok [g] ⟨hg, trivial⟩ (by simp)
  rw [List.take_of_length_le hnf] at h1
  rw [List.take_of_length_le hng] at h2
  simp only [cellsFs, List.append_nil, List.length_singleton] at h1 h2
  generalize nodesFs [] [] false [f] = L at h1 hnf ⊢
  generalize nodesFs [] [] false [g] = M at h2 hng ⊢
  generalize cellsF f = fc at h1 ⊢
  generalize cellsF g = gc at h2 ⊢
  refine Tri.boolC rfl (Tri_of F51_ok fun I0 ρ0 w0 Q hρ hQ => ?_) h
  obtain ⟨A, hA⟩ : ∃ A, A = stdA := ⟨_, rfl⟩
  with_reducible refine runS hA hd hQ 200 ?hk ?_
  case hk => exact trivial
  conv => arg 9; cbv
  try simp only [OK]
  repeat' first | (with_reducible refine OKK.loop ?_) | (with_reducible refine OKK.again ?_) | ((with_reducible refine ⟨fun hbr => ?_, fun hbr => ?_⟩) <;> (try simp (disch := omega) only [hA, OK, emaU, Int.reduceToNat, s_bat, s_eqlB, s_neqB, reduceCtorEq] at hbr) <;> (try (with_reducible exfalso; omega))) | ((with_reducible refine runK hA hd hQ 200 ?hk ?_); (case hk => exact trivial); (conv => arg 9; cbv); (try simp only [OK])) | ((with_reducible refine need_of ?hn ?_); (case hn => ((simp (disch := omega) only [hA, OK, emaU, Int.reduceToNat, s_bat, s_eqlB, s_neqB]) <;> omega))) | fail
  refine CallOK.of (goodF_of F74_ok) (Tri.mono (h1 _) fun v hh hx => ?_)
  obtain ⟨⟨ds, hv, hds, hdok⟩, hh'⟩ := hx
  subst hds
  obtain ⟨an, han⟩ : ∃ n, n = ds.length := ⟨_, rfl⟩
  obtain ⟨ac, hac⟩ : ∃ n, n = cellsDs ds := ⟨_, rfl⟩
  rw [← han, ← hac] at hv
  subst hv; subst hh'
  with_reducible refine runK hA hd hQ 1 ?hk ?_
  case hk => exact trivial
  conv => arg 9; cbv
  try simp only [OK]
  repeat' first | (with_reducible refine OKK.loop ?_) | (with_reducible refine OKK.again ?_) | ((with_reducible refine ⟨fun hbr => ?_, fun hbr => ?_⟩) <;> (try simp (disch := omega) only [hA, OK, emaU, Int.reduceToNat, s_bat, s_eqlB, s_neqB, reduceCtorEq] at hbr) <;> (try (with_reducible exfalso; omega))) | ((with_reducible refine runK hA hd hQ 200 ?hk ?_); (case hk => exact trivial); (conv => arg 9; cbv); (try simp only [OK])) | ((with_reducible refine need_of ?hn ?_); (case hn => ((simp (disch := omega) only [hA, OK, emaU, Int.reduceToNat, s_bat, s_eqlB, s_neqB]) <;> omega))) | fail
  refine CallOK.of (goodF_of F74_ok) (Tri.mono (h2 _) fun v hh hx => ?_)
  obtain ⟨⟨es, hv, hes, heok⟩, hh'⟩ := hx
  subst hes
  obtain ⟨bn, hbn⟩ : ∃ n, n = es.length := ⟨_, rfl⟩
  obtain ⟨bc, hbc⟩ : ∃ n, n = cellsDs es := ⟨_, rfl⟩
  rw [← hbn, ← hbc] at hv
  subst hv; subst hh'
  have hAll := All2_nd (ds := ds) (es := es)
  rw [← han, ← hbn] at hAll
  simp only [List.length_map] at hnf hng
  with_reducible refine runK hA hd hQ 1 ?hk ?_
  case hk => exact trivial
  conv => arg 9; cbv
  try simp only [OK]
  repeat' first | (with_reducible refine OKK.loop ?_) | (with_reducible refine OKK.again ?_) | ((with_reducible refine ⟨fun hbr => ?_, fun hbr => ?_⟩) <;> (try simp (disch := omega) only [hA, OK, emaU, Int.reduceToNat, s_bat, s_eqlB, s_neqB, reduceCtorEq] at hbr) <;> (try (with_reducible exfalso; omega))) | ((with_reducible refine runK hA hd hQ 200 ?hk ?_); (case hk => exact trivial); (conv => arg 9; cbv); (try simp only [OK])) | ((with_reducible refine need_of ?hn ?_); (case hn => ((simp (disch := omega) only [hA, OK, emaU, Int.reduceToNat, s_bat, s_eqlB, s_neqB]) <;> omega))) | fail
  ·
    all_goals (try (with_reducible refine FinR.self ?_; first | refine FinR.bl rfl ?_ | refine FinR.bs rfl ?_ | refine FinR.blh rfl ?_ rfl | refine FinR.bsh rfl ?_ rfl))
    all_goals (try simp (disch := omega) only [hA, OK, emaU, Int.reduceToNat, s_bat, s_eqlB, s_neqB, Bool.false_eq_true, true_iff, false_iff, eq_self, iff_true, iff_false])
    exact fun h => by have := (hAll.1 h).1; omega
  refine OKs.mask (msk 73 [2, 7, 8, 28, 29]) ?_
  refine OKs.loopN (fun n st => ∃ z : Int, st = ⟨mkT 73 [(2, .lit (.bool false)), (7, .isl an none ac), (8, .isl bn none bc), (28, .lit (.int .i64 (A.ofn an))), (29, .lit (.int .i64 z))], []⟩ ∧ n = (an - z).toNat ∧ 0 ≤ z ∧ z ≤ an ∧ ∀ j, j < z.toNat → simN (ds.getD j nd0).p (es.getD j nd0).p) (fun n st hs' ih => ?_) ⟨0, rfl, rfl, by omega, by omega, fun j hj => absurd hj (by simp)⟩
  obtain ⟨z, rfl, hn, hz1, hz2, hz3⟩ := hs'
  have hst := allP_step (p := fun j => simN (ds.getD j nd0).p (es.getD j nd0).p) hz1 hz3
  have hbad : z < an → ¬ simN (ds.getD z.toNat nd0).p (es.getD z.toNat nd0).p → ¬ All2 (ds.map Nd.p) (es.map Nd.p) := fun hz h1 h2 => h1 ((hAll.1 h2).2 _ (by omega))
  have hgood : z = an → All2 (ds.map Nd.p) (es.map Nd.p) := fun hz => hAll.2 ⟨by omega, fun j hj => hz3 j (by omega)⟩
  generalize All2 (ds.map Nd.p) (es.map Nd.p) = Q0 at *
  have hd1 : ∀ o k, o + k ≤ 10 → z < an → List.take k (List.drop (z.toNat * 10 + o) ac) = List.take k (List.drop o (cellsD (ds.getD z.toNat nd0))) := fun o k hk hz => by rw [hac]; exact nd_part (by omega) hk
  have he1 : ∀ o k, o + k ≤ 10 → z < an → List.take k (List.drop (z.toNat * 10 + o) bc) = List.take k (List.drop o (cellsD (es.getD z.toNat nd0))) := fun o k hk hz => by rw [hbc]; exact nd_part (by omega) hk
  have hpl : z < an → (ds.getD z.toNat nd0).p.path.length ≤ 65 := fun hz => (hdok _ (by rw [List.getD_eq_getElem?_getD, List.getElem?_eq_getElem (by omega)]; exact List.getElem_mem _)).1
  generalize ds.getD z.toNat nd0 = d at *
  generalize es.getD z.toNat nd0 = e at *
  have hL1 : z < an → List.take 1 (List.drop (A.add (A.idx 0 z 10) 0) ac) = [.isl d.p.path.length d.cap d.pc] := fun hz => by rw [hA, s_addN, s_idx, Nat.zero_add]; exact hd1 0 1 (by omega) hz
  have hL2 : z < an → List.take 7 (List.drop (A.add (A.idx 0 z 10) 1) ac) = cellsF d.p.f := fun hz => by rw [hA, s_addN, s_idx, Nat.zero_add, cellsF_eq]; exact hd1 1 7 (by omega) hz
  have hL3 : z < an → List.take 1 (List.drop (A.add (A.add (A.idx 0 z 10) 1) 0) ac) = [.lit (.string d.p.f.nm)] := fun hz => by rw [hA, s_addN, s_addN, s_idx, Nat.zero_add]; exact hd1 1 1 (by omega) hz
  have hM2 : z < an → List.take 7 (List.drop (A.add (A.idx 0 z 10) 1) bc) = cellsF e.p.f := fun hz => by rw [hA, s_addN, s_idx, Nat.zero_add, cellsF_eq]; exact he1 1 7 (by omega) hz
  have hM3 : z < an → List.take 1 (List.drop (A.add (A.add (A.idx 0 z 10) 1) 0) bc) = [.lit (.string e.p.f.nm)] := fun hz => by rw [hA, s_addN, s_addN, s_idx, Nat.zero_add]; exact he1 1 1 (by omega) hz
  have hc := sameNodeR_ok d.p.f e.p.f
  simp only [simN] at hst hbad
  clear hd1 he1
  generalize simF d.p.f e.p.f = P at hst hbad hc
  rw [cellsF_eq, cellsF_eq] at hc
  rw [cellsF_eq] at hL2 hM2
  generalize cellsFs d.p.f.kids = kc, d.p.f.kids.length = kn, d.p.f.nm = nm, d.p.f.nul = nul, d.p.f.kind = k, d.p.f.width = w, d.p.f.id = i, d.p.f.idx = ix at hL2 hL3 hc hst hbad
  generalize cellsFs e.p.f.kids = kc', e.p.f.kids.length = kn', e.p.f.nm = nm', e.p.f.nul = nul', e.p.f.kind = k', e.p.f.width = w', e.p.f.id = i', e.p.f.idx = ix' at hM2 hM3 hc hst hbad
  generalize d.p.path.length = pn, d.cap = pcap, d.pc = pc at hL1 hpl hst hbad
  with_reducible refine runS hA hd hQ 200 ?hk ?_
  case hk => exact trivial
  conv => arg 9; cbv
  try simp only [OK]
  repeat' first | (with_reducible refine OKK.loop ?_) | (with_reducible refine OKK.again ?_) | (with_reducible refine And.intro trivial ?_) | ((with_reducible refine ⟨fun hbr => ?_, fun hbr => ?_⟩) <;> (try simp (disch := omega) only [hA, OK, emaU, Int.reduceToNat, s_bat, s_eqlB, s_neqB, reduceCtorEq] at hbr) <;> (try (with_reducible exfalso; omega))) | ((with_reducible refine runK hA hd hQ 200 ?hk ?_); (case hk => exact trivial); (conv => arg 9; cbv); (try simp only [OK])) | ((with_reducible refine need_of ?hn ?_); (case hn => ((simp (disch := omega) only [hA, OK, emaU, Int.reduceToNat, s_bat, s_eqlB, s_neqB]) <;> omega))) | ((refine ⟨_, _, ?l1, (hL1 (by omega)), rfl, ?_⟩); (case l1 => exact rfl)) | ((refine ⟨_, _, ?l1, (hL2 (by omega)), rfl, ?_⟩); (case l1 => exact rfl)) | ((refine ⟨_, _, ?l1, (hL3 (by omega)), rfl, ?_⟩); (case l1 => exact rfl)) | ((refine ⟨_, _, ?l1, (hM2 (by omega)), rfl, ?_⟩); (case l1 => exact rfl)) | ((refine ⟨_, _, ?l1, (hM3 (by omega)), rfl, ?_⟩); (case l1 => exact rfl)) | (refine CallOK.of (goodF_of F75_ok) (Tri.mono (hc _) fun v hh hx => ?_); (obtain ⟨⟨b, hv, hb⟩, he⟩ := hx; subst hv; subst he; cases b <;> simp (disch := omega) only [hA, OK, emaU, Int.reduceToNat, s_bat, s_eqlB, s_neqB, Bool.false_eq_true, true_iff, false_iff, eq_self, reduceCtorEq] at hb) <;> (try (with_reducible exfalso; omega))) | fail
  all_goals try
    refine OKs.mask (msk 73 [2, 7, 8, 28, 29]) (OKs.mv [] [] (by rw [hρ]; rfl) ⟨by decide, by simp [sizeH], by simp⟩ (ih _ _ ⟨_, rfl, rfl, ?_, ?_, ?_⟩ ?_))
    all_goals simp (disch := omega) only [hA, OK, emaU, Int.reduceToNat, s_bat, s_eqlB, s_neqB]
    all_goals first
      | omega
      | exact hst ⟨hb, fun h => Classical.byContradiction fun hne => by first | exact hbr hne | omega⟩
  all_goals (try (with_reducible refine FinR.self ?_; first | refine FinR.bl rfl ?_ | refine FinR.bs rfl ?_ | refine FinR.blh rfl ?_ rfl | refine FinR.bsh rfl ?_ rfl))
  all_goals (try simp (disch := omega) only [hA, OK, emaU, Int.reduceToNat, s_bat, s_eqlB, s_neqB, Bool.false_eq_true, true_iff, false_iff, eq_self, iff_true, iff_false])
  all_goals first
    | exact hgood (by omega)
    | exact hbad (by omega) fun h => hb h.1
    | exact hbad (by omega) fun h => hbr (h.2 (by omega))
    | trace_state
theorem hold_same {a b : Fld} : ((hold a).nul = (hold b).nul ∧ sameT (hold a) (hold b)) ↔ sameT a b := by
  rw [sameT_iff, sameT_iff]
  obtain ⟨a1, a2, a3, a4, a5, a6, a7⟩ := a
  obtain ⟨b1, b2, b3, b4, b5, b6, b7⟩ := b
  constructor
  · exact fun h => h.2
  · refine fun h => ⟨?_, h⟩
    have h1 := h.1
    simp only [kind_mk] at h1
    show decide (a3 = 1) = decide (b3 = 1)
    rw [h1]
theorem may_len {f : Fld} (h : mayF f) : lowL (nodesFs [] [] false [f]) ∧ (nodesFs [] [] false [f]).length ≤ 257 := by
  have h1 := h.2.2.2
  refine ⟨allN_low h1, ?_⟩
  rw [allN_iff] at h1
  refine Classical.byContradiction fun hn => ?_
  have := (h1 256 (by omega)).1
  simp at this
def F14 : FC := ⟨20, [.tmp 4], (sQ [o 2 (.box Q0), o 3 (.box Q1), o 4 (.mov kF)] (.seq (.any (.fork [o 5 (.load true 5 Q2), o 6 (.call 50 [Q5]), oM 7 6, og 8 (.load true 5 Q3) 7 true, og 9 (.call 50 [Q8]) 7 true, o 10 (.pick Q7 Q9 kF), oM 11 10] (.fork [og 12 (.load true 5 Q2) 11 true] (.fork [og 13 (.call 52 [Q12]) 11 true]
 (.done [⟨some 14, .buildSlice 7 1 zaZ [(0, 7, Q13)], some (11, true)⟩, og 15 (.load true 5 Q3) 11 true, og 16 (.call 52 [Q15]) 11 true, ⟨some 17, .buildSlice 7 1 zaZ [(0, 7, Q16)], some (11, true)⟩, og 18 (.call 51 [Q14, Q17, kF]) 11 true, o 19 (.pick Q11 Q18 kF), oM 4 19]) (.fork [og 15 (.load true 5 Q3) 11 true]
 (.done [⟨some 14, .buildSlice 7 1 zaZ [(0, 7, Q13)], some (11, true)⟩, og 16 (.call 52 [Q15]) 11 true, ⟨some 17, .buildSlice 7 1 zaZ [(0, 7, Q16)], some (11, true)⟩, og 18 (.call 51 [Q14, Q17, kF]) 11 true, o 19 (.pick Q11 Q18 kF), oM 4 19]) (.fork [og 16 (.call 52 [Q15]) 11 true]
 (.done [⟨some 14, .buildSlice 7 1 zaZ [(0, 7, Q13)], some (11, true)⟩, ⟨some 17, .buildSlice 7 1 zaZ [(0, 7, Q16)], some (11, true)⟩, og 18 (.call 51 [Q14, Q17, kF]) 11 true, o 19 (.pick Q11 Q18 kF), oM 4 19])
 (.done [⟨some 17, .buildSlice 7 1 zaZ [(0, 7, Q16)], some (11, true)⟩, ⟨some 14, .buildSlice 7 1 zaZ [(0, 7, Q13)], some (11, true)⟩, og 18 (.call 51 [Q14, Q17, kF]) 11 true, o 19 (.pick Q11 Q18 kF), oM 4 19])))) (.fork [og 15 (.load true 5 Q3) 11 true, og 13 (.call 52 [Q12]) 11 true]
 (.done [⟨some 14, .buildSlice 7 1 zaZ [(0, 7, Q13)], some (11, true)⟩, og 16 (.call 52 [Q15]) 11 true, ⟨some 17, .buildSlice 7 1 zaZ [(0, 7, Q16)], some (11, true)⟩, og 18 (.call 51 [Q14, Q17, kF]) 11 true, o 19 (.pick Q11 Q18 kF), oM 4 19]) (.fork [og 16 (.call 52 [Q15]) 11 true]
 (.done [⟨some 14, .buildSlice 7 1 zaZ [(0, 7, Q13)], some (11, true)⟩, ⟨some 17, .buildSlice 7 1 zaZ [(0, 7, Q16)], some (11, true)⟩, og 18 (.call 51 [Q14, Q17, kF]) 11 true, o 19 (.pick Q11 Q18 kF), oM 4 19])
 (.done [⟨some 17, .buildSlice 7 1 zaZ [(0, 7, Q16)], some (11, true)⟩, ⟨some 14, .buildSlice 7 1 zaZ [(0, 7, Q13)], some (11, true)⟩, og 18 (.call 51 [Q14, Q17, kF]) 11 true, o 19 (.pick Q11 Q18 kF), oM 4 19])))) (.fork [og 15 (.load true 5 Q3) 11 true, og 12 (.load true 5 Q2) 11 true, og 13 (.call 52 [Q12]) 11 true]
 (.done [⟨some 14, .buildSlice 7 1 zaZ [(0, 7, Q13)], some (11, true)⟩, og 16 (.call 52 [Q15]) 11 true, ⟨some 17, .buildSlice 7 1 zaZ [(0, 7, Q16)], some (11, true)⟩, og 18 (.call 51 [Q14, Q17, kF]) 11 true, o 19 (.pick Q11 Q18 kF), oM 4 19]) (.fork [og 16 (.call 52 [Q15]) 11 true]
 (.done [⟨some 14, .buildSlice 7 1 zaZ [(0, 7, Q13)], some (11, true)⟩, ⟨some 17, .buildSlice 7 1 zaZ [(0, 7, Q16)], some (11, true)⟩, og 18 (.call 51 [Q14, Q17, kF]) 11 true, o 19 (.pick Q11 Q18 kF), oM 4 19])
 (.done [⟨some 17, .buildSlice 7 1 zaZ [(0, 7, Q16)], some (11, true)⟩, ⟨some 14, .buildSlice 7 1 zaZ [(0, 7, Q13)], some (11, true)⟩, og 18 (.call 51 [Q14, Q17, kF]) 11 true, o 19 (.pick Q11 Q18 kF), oM 4 19]))))) .ret))⟩
theorem F14_ok : compF Tryz.prog 14 = some F14 := by kernel_rfl
-- emaX: s_bat
theorem hmx : Tryz.prog.follows .mixedOrders = true := by kernel_rfl
theorem frz23 (o0 o1 : EO) (c1 c2 : List EV) (k1 : clL c1 = true) (k2 : clL c2 = true) : okMv (List.range 4) [2, 3] [o0, o1, .blk c1, .blk c2] :=
  ⟨by decide, by simp [sizeH], fun id hid => by simp at hid; rcases hid with rfl | rfl; exact ⟨_, rfl, k1⟩; exact ⟨_, rfl, k2⟩⟩
set_option maxRecDepth 100000 in
set_option maxHeartbeats 8000000 in
theorem alikeR_ok (a b : Fld) (ha : okF a) (hb : okF b) (ka : a.kind ≠ 20) (kb : b.kind ≠ 20) (h : EH) :
    Tri Tryz.prog gs 14 [.agg (tyC a), .agg (tyC b)] h fun v h' => IsP (alikeP a b) v ∧ h' = h := by
  have h1 := mayTypeR_ok a ha ka
  have h2 := mayTypeR_ok b hb kb
  have h3 := holderR_ok a ka
  have h4 := holderR_ok b kb
  have h5 : mayF (hold a) → mayF (hold b) → ∀ h : EH, Tri Tryz.prog gs 51 [.isl 1 none (cellsF (hold a)), .isl 1 none (cellsF (hold b)), .lit (.bool false)] h fun v h' => IsP (sameT a b) v ∧ h' = h := fun p1 p2 h => by
    rw [← hold_same]
    exact alikeL_ok _ _ (hold_ok ha) (hold_ok hb) (may_len p1).1 (may_len p1).2 (may_len p2).2 h
  unfold alikeP
  generalize mayF (hold a) = P1, mayF (hold b) = P2, sameT a b = P3 at *
  rw [hold_cells] at h3 h4 h5
  rw [hold_cells] at h5
  unfold tyC at *
  generalize cellsFs a.kids = kc, a.kids.length = kn, decide (a.kind = 1) = na, a.kind = k, a.width = w, a.id = i, a.idx = ix at *
  generalize cellsFs b.kids = kc', b.kids.length = kn', decide (b.kind = 1) = nb, b.kind = k', b.width = w', b.id = i', b.idx = ix' at *
  refine Tri.boolC rfl (Tri_of F14_ok fun I0 ρ0 w0 Q hρ hQ => ?_) h
  obtain ⟨A, hA⟩ : ∃ A, A = stdA := ⟨_, rfl⟩
  with_reducible refine runS hA hd hQ 1 ?hk ?_
  case hk => exact trivial
  conv => arg 9; cbv
  try simp only [OK]
  repeat' first | (with_reducible refine OKK.anyS hmx ?_) | ((with_reducible refine ⟨fun hbr => ?_, fun hbr => ?_⟩) <;> (try simp (disch := omega) only [hA, OK, emaU, Int.reduceToNat, s_bat, reduceCtorEq] at hbr) <;> (try (with_reducible exfalso; omega))) | ((with_reducible refine runK hA hd hQ 1 ?hk ?_); (case hk => exact trivial); (conv => arg 9; cbv); (try simp only [OK])) | ((with_reducible refine need_of ?hn ?_); (case hn => ((simp (disch := omega) only [hA, OK, emaU, Int.reduceToNat, s_bat]) <;> omega))) | fail
  repeat' first | (with_reducible refine And.intro trivial ?_) | (with_reducible refine AnyOK.doneR ?_) | (with_reducible refine AnyOK.forkR ?_) | (with_reducible refine Both.intro ?_ ?_) | ((with_reducible refine ⟨fun hbr => ?_, fun hbr => ?_⟩) <;> (try simp (disch := omega) only [hA, OK, emaU, Int.reduceToNat, s_bat, reduceCtorEq] at hbr) <;> (try (with_reducible exfalso; omega))) | ((with_reducible refine runK hA hd hQ 200 ?hk ?_); (case hk => exact trivial); (conv => arg 9; cbv); (try simp only [OK])) | ((with_reducible refine need_of ?hn ?_); (case hn => ((simp (disch := omega) only [hA, OK, emaU, Int.reduceToNat, s_bat]) <;> omega))) | (refine CallOK.of (goodF_of F50_ok) (Tri.mono (h1 _) fun v hh hx => ?_); (obtain ⟨⟨b, hv, hb⟩, he⟩ := hx; subst hv; subst he; cases b <;> simp (disch := omega) only [hA, OK, emaU, Int.reduceToNat, s_bat, Bool.false_eq_true, true_iff, false_iff, eq_self, reduceCtorEq] at hb) <;> (try (with_reducible exfalso; omega))) | (refine CallOK.of (goodF_of F50_ok) (Tri.mono (h2 _) fun v hh hx => ?_); (obtain ⟨⟨b, hv, hb⟩, he⟩ := hx; subst hv; subst he; cases b <;> simp (disch := omega) only [hA, OK, emaU, Int.reduceToNat, s_bat, Bool.false_eq_true, true_iff, false_iff, eq_self, reduceCtorEq] at hb) <;> (try (with_reducible exfalso; omega))) | ((refine CallOK.of (goodF_of F52_ok) (Tri.mono (h3 _) fun v hh hx => ?_)); (obtain ⟨hv, hh'⟩ := hx; subst hv; subst hh')) | ((refine CallOK.of (goodF_of F52_ok) (Tri.mono (h4 _) fun v hh hx => ?_)); (obtain ⟨hv, hh'⟩ := hx; subst hv; subst hh')) | fail
  all_goals try
    refine CallOK.of (goodF_of F51_ok) (Tri.mono (Tri.freeze 4 rfl [2, 3] (frz23 _ _ _ _ rfl rfl) (Tri.args (h5 (by assumption) (by assumption) _) (UpL.cons (Up.cap _ _ _) (UpL.cons (Up.cap _ _ _) (UpL.cons (Up.refl _) UpL.nil))))) fun v hh hx => ?_)
    obtain ⟨⟨b, hv, hb3⟩, hh'⟩ := hx
    subst hv
    have hh2 : hh = [.blk [.lit (.int .i64 k), .lit (.int .i64 w), .lit (.int .i64 i), .lit (.int .i64 ix), .isl kn none kc], .blk [.lit (.int .i64 k'), .lit (.int .i64 w'), .lit (.int .i64 i'), .lit (.int .i64 ix'), .isl kn' none kc'], .dead, .dead] := hh'
    subst hh2
    cases b
    all_goals
      with_reducible refine runK hA hd hQ 1 ?hk ?_
      case hk => exact trivial
      conv => arg 9; cbv
      try simp only [OK]
      repeat' first | ((with_reducible refine ⟨fun hbr => ?_, fun hbr => ?_⟩) <;> (try simp (disch := omega) only [hA, OK, emaU, Int.reduceToNat, s_bat, reduceCtorEq] at hbr) <;> (try (with_reducible exfalso; omega))) | ((with_reducible refine runK hA hd hQ 200 ?hk ?_); (case hk => exact trivial); (conv => arg 9; cbv); (try simp only [OK])) | ((with_reducible refine need_of ?hn ?_); (case hn => ((simp (disch := omega) only [hA, OK, emaU, Int.reduceToNat, s_bat]) <;> omega))) | fail
  all_goals (try (with_reducible refine FinR.self ?_; first | refine FinR.bl rfl ?_ | refine FinR.bs rfl ?_ | refine FinR.blh rfl ?_ rfl | refine FinR.bsh rfl ?_ rfl))
  all_goals (try simp (disch := omega) only [hA, OK, emaU, Int.reduceToNat, s_bat, Bool.false_eq_true, true_iff, false_iff, eq_self, iff_true, iff_false])
  all_goals simp_all
theorem PX.ok {u : Bool} {c : Fld} {r : Bool} {g : Fld} (h : PX u c r g) (ho : okF c) : okF g := by
  induction h with
  | here u c hn => exact ho
  | down u c d r g hk hc _ ih =>
    refine ih ?_
    obtain ⟨a1, a2, a3, a4, a5, a6, a7⟩ := c
    simp only [kids_mk] at hc
    subst hc
    exact ho.2.2.2.2.2.2.1
def okPF (p : PF) : Prop := okF p.g ∧ allF p.g ∧ p.g.kind ≠ 19 ∧ p.g.kind ≠ 20
theorem plF_ok {f : Fld} (ho : okF f) (hm : mayF f) : okPF (plF f) ∧ PX f.nul f (plF f).nul (plF f).g ∧ (plF f).nm = f.nm := by
  obtain ⟨r, g, h1, h2, h3⟩ := px_ex _ f f.nul (Nat.le_refl _) (mayF_all hm)
  rw [plF_eq h1]
  exact ⟨⟨h1.ok ho, h2, fun h => h3 (.inl h), fun h => h3 (.inr h)⟩, h1, rfl⟩
theorem r0 : i64r 0 := by unfold i64r; omega
theorem zt_ok {k : Int} (h : i64r k) : okF (zt k) := ⟨by decide, h, r0, r0, r0, by decide, trivial⟩
theorem named_cells (nm : ByteArray) (x : Bool × Fld) : cellsF (named nm x) = .lit (.string nm) :: .lit (.bool x.1) :: tyC x.2 := rfl
theorem namedF_ok {nm : ByteArray} {x : Bool × Fld} (h : nm.size ≤ 140737488351232) (hx : okF x.2) : okF (named nm x) := by
  obtain ⟨b, a1, a2, a3, a4, a5, a6, a7⟩ := x
  exact ⟨h, hx.2⟩
theorem okF_nm {f : Fld} (h : okF f) : f.nm.size ≤ 140737488351232 := by
  obtain ⟨a1, a2, a3, a4, a5, a6, a7⟩ := f; exact h.1
theorem ok_kind {f : Fld} (h : okF f) : i64r f.kind := by
  obtain ⟨a1, a2, a3, a4, a5, a6, a7⟩ := f; exact h.2.1
def IsT (p : Prop) (t : Fld) (v : EV) : Prop := ∃ (b : Bool) (k w i x : Int) (n : Nat) (c : List EV), v = .tup [.agg [.lit (.int .i64 k), .lit (.int .i64 w), .lit (.int .i64 i), .lit (.int .i64 x), .isl n none c], .sb b] ∧ (b = true ↔ p) ∧ (p → tyC t = [.lit (.int .i64 k), .lit (.int .i64 w), .lit (.int .i64 i), .lit (.int .i64 x), .isl n none c])
theorem IsT.cl {p : Prop} {t : Fld} {v : EV} (h : IsT p t v) : clE v = true := by obtain ⟨b, k, w, i, x, n, c, rfl, _⟩ := h; rfl
theorem Up.agg5 {a b c d e e' : EV} (h : Up e e') : Up (.agg [a, b, c, d, e]) (.agg [a, b, c, d, e']) := fun w I ρ cv hr => by
  cases hr with
  | agg _ cc vs hl hc =>
    refine .agg _ _ _ (by simpa using hl) fun j x v he hv => ?_
    match j, he with
    | 0, he => simp at he; subst he; exact hc 0 _ v rfl hv
    | 1, he => simp at he; subst he; exact hc 1 _ v rfl hv
    | 2, he => simp at he; subst he; exact hc 2 _ v rfl hv
    | 3, he => simp at he; subst he; exact hc 3 _ v rfl hv
    | 4, he => simp at he; subst he; exact h _ _ _ _ (hc 4 _ v rfl hv)
theorem FinR.ty {rs : List ER} {s : St} {p : Prop} {t : Fld} {b : Bool} {be pe : EV} {k w i x : Int} {n : Nat} {c : List EV}
    (hv : retE rs s.t s.h = some (.tup [.agg [.lit (.int .i64 k), .lit (.int .i64 w), .lit (.int .i64 i), .lit (.int .i64 x), pe], be])) (hu : Up pe (.isl n none c)) (hb : Up be (.sb b)) (hp : b = true ↔ p)
    (ht : p → tyC t = [.lit (.int .i64 k), .lit (.int .i64 w), .lit (.int .i64 i), .lit (.int .i64 x), .isl n none c]) : FinR rs (fun v _ => ∃ v', IsT p t v' ∧ Up v v') s :=
  ⟨_, hv, _, ⟨b, k, w, i, x, n, c, rfl, hp, ht⟩, Up.tup2 (Up.agg5 hu) hb⟩
theorem Tri.typC {P : Program} {G : List (List EV)} {f : FuncId} {args : List EV} {p : Prop} {ty : Fld} (ha : clL args = true) (t : Tri P G f args [] fun v _ => ∃ v', IsT p ty v' ∧ Up v v') (h : EH) : Tri P G f args h fun v h' => IsT p ty v ∧ h' = h :=
  Tri.litC (fun v hv => hv.cl) ha (Tri.up t fun v h' ⟨v', h1, h2⟩ => ⟨v', h1, h2⟩) h
def islP (l : List PF) : EV := .isl l.length none (cellsPF l)
end Go.Proofs.YtmckingimnhoaaaGreatDoor.Stats
