/- YtecephhhjhpcjaaGreatDoorMc: the texts St9, St10, St11, brought together. No conditions. -/
import Derived.Test.YtecephhhjhpcjaaGreatDoorMb
import Derived.Test.YtecephhhjhpcjaaGreatDoorX38
section
set_option linter.unusedVariables false
set_option linter.unusedSimpArgs false
-- emaX: s_bat
namespace Go.Proofs.YtecephhhjhpcjaaGreatDoor.Stats
open Go Go.Proofs.YtecephhhjhpcjaaGreatDoor Go.Proofs.YtecephhhjhpcjaaGreatDoor.Em
structure Nd where
  p : Pl
  cap : Option Nat
  pc : List EV
  rest : List Fld
def cellsD (d : Nd) : List EV :=
  [.isl d.p.path.length d.cap d.pc, .lit (.string d.p.f.nm), .lit (.bool d.p.f.nul), .lit (.int .i64 d.p.f.kind), .lit (.int .i64 d.p.f.width), .lit (.int .i64 d.p.f.id), .lit (.int .i64 d.p.f.idx),
    .isl d.p.f.kids.length none (cellsFs d.p.f.kids), .isl d.p.ahead.length none (cellsFs (d.p.ahead ++ d.rest)), .sb d.p.inD]
def cellsDs : List Nd → List EV
  | [] => []
  | d :: l => cellsD d ++ cellsDs l
def nd0 : Nd := ⟨⟨[], [], fld0, false⟩, none, [], []⟩
def okD (d : Nd) : Prop := d.p.path.length ≤ 65 ∧ d.p.ahead.length ≤ 140737488351232 ∧ okF d.p.f
theorem cellsD_length (d : Nd) : (cellsD d).length = 10 := rfl
theorem ds_length : ∀ l : List Nd, (cellsDs l).length = 10 * l.length
  | [] => rfl
  | f :: l => by simp only [cellsDs, List.length_append, cellsD_length, ds_length l, List.length_cons]; omega
theorem ds_get : ∀ (l : List Nd) (i : Nat), i < l.length → ((cellsDs l).drop (i * 10)).take 10 = cellsD (l.getD i nd0)
  | [], i, h => by simp at h
  | f :: l, 0, _ => by
    simp only [cellsDs, Nat.zero_mul, List.drop_zero, List.getD_cons_zero]
    rw [List.take_append_of_le_length (by rw [cellsD_length]; omega), List.take_of_length_le (by rw [cellsD_length]; omega)]
  | f :: l, i + 1, h => by
    have ih := ds_get l i (by simpa using h)
    rw [cellsDs, List.drop_append, List.drop_eq_nil_of_le (by rw [cellsD_length]; omega), cellsD_length, List.nil_append, show (i + 1) * 10 - 10 = i * 10 by omega, ih]
    rfl
theorem all_of {l : List Fld} {q : Fld → Prop} {n : Nat} (hn : l.length ≤ n) (h : ∀ j, j < n → q (l.getD j fld0)) (g : Fld) (hg : g ∈ l) : q g := by
  obtain ⟨j, hj, rfl⟩ := List.getElem_of_mem hg
  have := h j (by omega)
  rwa [List.getD_eq_getElem?_getD, List.getElem?_eq_getElem hj] at this
theorem none_of {l : List Nd} {i : Int} {m n : Nat} (hn : m ≤ n) (h : ∀ j, j < n → ¬ ((l.getD j nd0).p.f.kind = 19 ∧ (l.getD j nd0).p.f.id = i)) : ¬ ∃ o, o ∈ (l.take m).map Nd.p ∧ o.f.kind = 19 ∧ o.f.id = i := by
  rintro ⟨o, ho, h1, h2⟩
  obtain ⟨d, hd, rfl⟩ := List.mem_map.1 ho
  obtain ⟨j, hj, rfl⟩ := List.mem_take_iff_getElem.1 hd
  have := h j (by omega)
  rw [List.getD_eq_getElem?_getD, List.getElem?_eq_getElem (by omega)] at this
  exact this ⟨h1, h2⟩
set_option maxRecDepth 100000 in
set_option maxHeartbeats 8000000 in
theorem wrongR_ok (ds : List Nd) (m : Nat) (hm : m < ds.length) (hds : ds.length ≤ 257) (hok : ∀ d ∈ ds, okD d) (h : EH) :
    Tri Tryz.prog gs 56 [.isl ds.length none (cellsDs ds), .lit (.int .i64 m)] h fun v h' => IsN .i64 (fun n => n = 0 ↔ m < 256 ∧ okN ((ds.take m).map Nd.p) (ds.getD m nd0).p) v ∧ h' = h := by
  refine Tri.intC rfl ?_ h
  refine Tri_of F56_ok fun I0 ρ0 w0 Q hρ hQ => ?_
  obtain ⟨A, hA⟩ : ∃ A, A = stdA := ⟨_, rfl⟩
  obtain ⟨c, hc⟩ : ∃ c, c = cellsDs ds := ⟨_, rfl⟩
  obtain ⟨n0, hn0⟩ : ∃ n, n = ds.length := ⟨_, rfl⟩
  obtain ⟨M, hM⟩ : ∃ n : Int, n = m := ⟨_, rfl⟩
  rw [← hc, ← hn0, ← hM]
  have hL := ds_get ds m hm
  have hmem : ds.getD m nd0 ∈ ds := by rw [List.getD_eq_getElem?_getD, List.getElem?_eq_getElem hm]; exact List.getElem_mem _
  have hokd := hok _ hmem
  generalize ds.getD m nd0 = d at *
  obtain ⟨⟨path, ahead, f, inD⟩, cap, pc, rest⟩ := d
  obtain ⟨nm, nul, k, w, i, x, kids⟩ := f
  simp only [okN, okD, cellsD, nm_mk, nul_mk, kind_mk, width_mk, id_mk, idx_mk, kids_mk, okF] at hQ hokd hL
  obtain ⟨ho1, hal, hok1⟩ := hokd
  have hn := isNameR_ok nm hok1.1
  have hf := shaped_ok k w i x kids.length (cellsFs kids)
  have hu := fun hf h => nullsR_ok nm nul k w i x kids h hf
  have hkn : kids.length ≤ 140737488351232 := hok1.2.2.2.2.2.1
  have hkk := kid0_look kids
  obtain ⟨kb, hkb⟩ : ∃ b, b = kid0 kids := ⟨_, rfl⟩
  have hfx : fitsP k w i x kids.length → k = 19 → 0 < kids.length := fun h h19 => by
    obtain ⟨_, _, h⟩ := h
    subst h19
    simp at h
    omega
  simp only [cellsF] at hu
  have hkcl := clFs kids
  rw [← hkb] at hkk hQ
  have hag := fun (z : Int) (hz : 0 ≤ z) (hz2 : z < ahead.length) => (fs_get1 (c := cellsFs (ahead ++ rest)) rfl z.toNat (by omega)).trans (cellsF_eq _)
  have ham := fun (z : Int) (hz : 0 ≤ z) (hz2 : z < ahead.length) => (show ahead.getD z.toNat fld0 ∈ ahead by rw [List.getD_eq_getElem?_getD, List.getElem?_eq_getElem (by omega)]; exact List.getElem_mem _)
  generalize cellsFs kids = kc at *
  generalize hkn0 : kids.length = kn at *
  generalize cellsFs (ahead ++ rest) = ac at *
  generalize han : ahead.length = an at *
  generalize hpn : path.length = pn at *
  have hL1 : List.take 10 (List.drop (A.idx 0 M 10) c) = _ := (show _ = List.take 10 (List.drop (m * 10) (cellsDs ds)) by rw [hA, hc, hM, s_idx, Nat.zero_add, Int.toNat_natCast]).trans hL
  have hLk : fitsP k w i x kn → k = 19 → List.take 1 (List.drop (A.add (A.idx 0 0 7) 1) kc) = [.lit (.bool kb)] := fun h1 h2 => by rw [hA]; exact hkk (hfx h1 h2)
  have hdg : ∀ (z : Int), 0 ≤ z → z < M → List.take 10 (List.drop (A.idx 0 z 10) c) = cellsD (ds.getD z.toNat nd0) := fun z h1 h2 => by
    rw [hA, hc, ← ds_get ds z.toNat (by omega)]; simp only [s_idx, Nat.zero_add]
  cases kb
  all_goals
    with_reducible refine runS hA hd hQ 300 ?hk ?_
    case hk => exact trivial
    conv => arg 9; cbv
    try simp only [OK]
    repeat' first | (with_reducible refine OKK.loop ?_) | (with_reducible refine OKK.again ?_) | ((with_reducible refine ⟨fun hbr => ?_, fun hbr => ?_⟩) <;> (try simp (disch := omega) only [hA, OK, emaU, Int.reduceToNat, s_bat, reduceCtorEq] at hbr) <;> (try (with_reducible exfalso; omega))) | ((with_reducible refine runK hA hd hQ 300 ?hk ?_); (case hk => exact trivial); (conv => arg 9; cbv); (try simp only [OK])) | ((with_reducible refine need_of ?hn ?_); (case hn => ((simp (disch := omega) only [hA, OK, emaU, Int.reduceToNat, s_bat]) <;> omega))) | ((refine ⟨_, _, ?l1, hL1, rfl, ?_⟩); (case l1 => exact rfl)) | (refine CallOK.of (goodF_of F77_ok) (Tri.mono (hn _) fun v hh hx => ?_); (obtain ⟨⟨b, hv, hb⟩, he⟩ := hx; subst hv; subst he; cases b <;> simp (disch := omega) only [hA, OK, emaU, Int.reduceToNat, s_bat, Bool.false_eq_true, true_iff, false_iff, eq_self, reduceCtorEq] at hb) <;> (try (with_reducible exfalso; omega)))
  all_goals try
    refine OKs.mask (msk 95 [0, 1, 5, 6, 28, 29, 30]) ?_
    refine OKs.loopN (fun n st => ∃ z : Int, st = ⟨mkT 95 [(0, .isl n0 none c), (1, .lit (.int .i64 M)), (5, .ptr 0 0), (6, .ptr 1 0), (28, .isl an none ac), (29, .lit (.int .i64 (A.ofn an))), (30, .lit (.int .i64 z))], [.blk [.isl pn cap pc, .lit (.string nm), .lit (.bool nul), .lit (.int .i64 k), .lit (.int .i64 w), .lit (.int .i64 i), .lit (.int .i64 x), .isl kn none kc, .isl an none ac, .sb inD], .blk [.lit (.string nm), .lit (.bool nul), .lit (.int .i64 k), .lit (.int .i64 w), .lit (.int .i64 i), .lit (.int .i64 x), .isl kn none kc]]⟩ ∧ n = (an - z).toNat ∧ 0 ≤ z ∧ z ≤ an ∧ ∀ j, j < z.toNat → (ahead.getD j fld0).nm ≠ nm) (fun n st hs' ih => ?_) ⟨0, rfl, rfl, by omega, by omega, fun j hj => absurd hj (by simp)⟩
    obtain ⟨z, rfl, hnn, hz1, hz2, hz3⟩ := hs'
    obtain ⟨g, hg⟩ : ∃ g, g = ahead.getD z.toNat fld0 := ⟨_, rfl⟩
    have hLg : z < an → List.take 7 (List.drop (A.idx 0 z 7) ac) = _ := fun hz => (show _ = List.take 7 (List.drop (z.toNat * 7) ac) by rw [hA, s_idx, Nat.zero_add]).trans (hag z hz1 (by omega))
    have hgm := fun hz => ham z hz1 hz
    rw [← hg] at hLg hgm
    generalize g.nul = gb, g.kind = gk, g.width = gw, g.id = gi, g.idx = gx, g.kids.length = gl, cellsFs g.kids = gc at hLg
    obtain ⟨gn, hgn⟩ : ∃ gn, gn = g.nm := ⟨_, rfl⟩
    rw [← hgn] at hLg
    with_reducible refine runS hA hd hQ 300 ?hk ?_
    case hk => exact trivial
    conv => arg 9; cbv
    try simp only [OK]
    repeat' first | (with_reducible refine OKK.loop ?_) | (with_reducible refine OKK.again ?_) | ((with_reducible refine ⟨fun hbr => ?_, fun hbr => ?_⟩) <;> (try simp (disch := omega) only [hA, OK, emaU, Int.reduceToNat, s_bat, reduceCtorEq] at hbr) <;> (try (with_reducible exfalso; omega))) | ((with_reducible refine runK hA hd hQ 300 ?hk ?_); (case hk => exact trivial); (conv => arg 9; cbv); (try simp only [OK])) | ((with_reducible refine need_of ?hn ?_); (case hn => ((simp (disch := omega) only [hA, OK, emaU, Int.reduceToNat, s_bat]) <;> omega))) | ((refine ⟨_, _, ?l1, (hLg (by omega)), rfl, ?_⟩); (case l1 => exact rfl)) | ((refine ⟨_, _, ?l1, (hLk (by assumption) (by assumption)), rfl, ?_⟩); (case l1 => exact rfl)) | ((with_reducible refine need_of ?hn ?_); (case hn => (have hneed := hfx (by assumption) (by assumption); (simp (disch := omega) only [hA, OK, emaU, Int.reduceToNat, s_bat]) <;> omega))) | (refine CallOK.of (goodF_of F78_ok) (Tri.mono (hf _ hkn hkcl) fun v hh hx => ?_); (obtain ⟨⟨b, hv, hb⟩, he⟩ := hx; subst hv; subst he; cases b <;> simp (disch := omega) only [hA, OK, emaU, Int.reduceToNat, s_bat, Bool.false_eq_true, true_iff, false_iff, eq_self, reduceCtorEq] at hb) <;> (try (with_reducible exfalso; omega))) | (refine CallOK.of (goodF_of F79_ok) (Tri.mono (hu (by assumption) _) fun v hh hx => ?_); (obtain ⟨⟨b, hv, hb⟩, he⟩ := hx; subst hv; subst he; cases b <;> simp (disch := omega) only [hA, OK, emaU, Int.reduceToNat, s_bat, Bool.false_eq_true, true_iff, false_iff, eq_self, reduceCtorEq] at hb) <;> (try (with_reducible exfalso; omega)))
  all_goals try (refine OKs.mask (msk 95 [0, 1, 5, 6, 28, 29, 30]) (OKs.mv [0, 1] [] (by rw [hρ]; rfl) ⟨by simp, by simp [sizeH], by simp⟩ (ih _ _ ⟨_, rfl, rfl, ?_, ?_, ?_⟩ ?_)))
  all_goals try
    clear ih
    refine OKs.mask (msk 95 [6, 73, 74, 75]) ?_
    refine OKs.loopN (fun n st => ∃ (z : Int) (sn : Nat) (sc : List EV), st = ⟨mkT 95 [(6, .ptr 1 0), (73, .isl sn none sc), (74, .lit (.int .i64 (A.ofn sn))), (75, .lit (.int .i64 z))], [.blk [.isl pn cap pc, .lit (.string nm), .lit (.bool nul), .lit (.int .i64 k), .lit (.int .i64 w), .lit (.int .i64 i), .lit (.int .i64 x), .isl kn none kc, .isl an none ac, .sb inD], .blk [.lit (.string nm), .lit (.bool nul), .lit (.int .i64 k), .lit (.int .i64 w), .lit (.int .i64 i), .lit (.int .i64 x), .isl kn none kc]]⟩ ∧ n = (sn - z).toNat ∧ sn = m ∧ sc = c ∧ 0 ≤ z ∧ z ≤ sn ∧ ∀ j, j < z.toNat → ¬ ((ds.getD j nd0).p.f.kind = 19 ∧ (ds.getD j nd0).p.f.id = i)) (fun n st hs' ih => ?_)
      ⟨0, _, _, rfl, rfl, by simp (disch := omega) only [hA, OK, emaU, Int.reduceToNat, s_bat] <;> omega, by simp (disch := omega) only [hA, OK, emaU, Int.reduceToNat, s_bat] <;> simp, by omega, by simp (disch := omega) only [hA, OK, emaU, Int.reduceToNat, s_bat] <;> omega, fun j hj => absurd hj (by simp)⟩
    obtain ⟨y, sn, sc, rfl, hnn, hsn, rfl, hy1, hy2, hy3⟩ := hs'
    obtain ⟨d, hd'⟩ : ∃ d, d = ds.getD y.toNat nd0 := ⟨_, rfl⟩
    have hdm : y < sn → d ∈ ds.take m := fun hy => by
      rw [hd', List.getD_eq_getElem?_getD, List.getElem?_eq_getElem (by omega)]
      exact List.mem_take_iff_getElem.2 ⟨y.toNat, by omega, rfl⟩
    have hLd : y < sn → List.take 10 (List.drop (A.idx 0 y 10) sc) = _ := fun hy => (hdg y hy1 (by omega)).trans (by rw [← hd'])
    have hst := allP_step hy1 hy3
    rw [← hd'] at hst
    simp only [cellsD] at hLd
    generalize d.p.path.length = dn, d.cap = dc, d.pc = dp, d.p.f.nm = dnm, d.p.f.nul = dnul, d.p.f.width = dw, d.p.f.idx = dx, d.p.f.kids.length = dk, cellsFs d.p.f.kids = dkc, d.p.ahead.length = da, cellsFs (d.p.ahead ++ d.rest) = dac, d.p.inD = di at hLd
    have hex : y < sn → d.p.f.kind = 19 → d.p.f.id = i → ∃ o, o ∈ (ds.take m).map Nd.p ∧ o.f.kind = 19 ∧ o.f.id = i := fun h1 h2 h3 => ⟨d.p, List.mem_map.2 ⟨d, hdm h1, rfl⟩, h2, h3⟩
    generalize d.p.f.kind = dk, d.p.f.id = did at hLd hex hst
    with_reducible refine runS hA hd hQ 300 ?hk ?_
    case hk => exact trivial
    conv => arg 9; cbv
    try simp only [OK]
    repeat' first | (with_reducible refine OKK.loop ?_) | (with_reducible refine OKK.again ?_) | ((with_reducible refine ⟨fun hbr => ?_, fun hbr => ?_⟩) <;> (try simp (disch := omega) only [hA, OK, emaU, Int.reduceToNat, s_bat, reduceCtorEq] at hbr) <;> (try (with_reducible exfalso; omega))) | ((with_reducible refine runK hA hd hQ 300 ?hk ?_); (case hk => exact trivial); (conv => arg 9; cbv); (try simp only [OK])) | ((with_reducible refine need_of ?hn ?_); (case hn => ((simp (disch := omega) only [hA, OK, emaU, Int.reduceToNat, s_bat]) <;> omega))) | ((refine ⟨_, _, ?l1, (hLd (by omega)), rfl, ?_⟩); (case l1 => exact rfl))
  all_goals try (refine OKs.mask (msk 95 [6, 73, 74, 75]) (OKs.mv [0, 1] [] (by rw [hρ]; rfl) ⟨by simp, by simp [sizeH], by simp⟩ (ih _ _ ⟨_, _, _, rfl, rfl, ?_, ?_, ?_, ?_, ?_⟩ ?_)))
  all_goals (try (with_reducible refine FinR.self ?_; first | refine FinR.n rfl ?_ | refine FinR.nh rfl ?_ rfl))
  all_goals (try simp (disch := omega) only [hA, OK, emaU, Int.reduceToNat, s_bat, Bool.false_eq_true, true_iff, false_iff, eq_self, iff_true, iff_false])
  all_goals first
    | omega
    | exact hst (by omega)
    | exact allP_step hz1 hz3 (by rw [← hg, ← hgn]; assumption)
    | exact ⟨fun h => absurd h (by decide), fun ⟨h1, h2, h3, h4, h5, h6, h7, h8⟩ => by
        exfalso
        first
          | omega
          | contradiction
          | exact h4 g (hgm (by omega)) (by rw [← hgn]; assumption)
          | exact h7 ⟨by assumption, by omega⟩
          | exact h8 ⟨by assumption, .inl trivial⟩
          | exact h8 ⟨by assumption, .inr (hex (by omega) (by assumption) (by assumption))⟩⟩
    | (refine ⟨by omega, by omega, by assumption, all_of (by omega) hz3, by assumption, by assumption, ?_, ?_⟩ <;>
        first
          | exact fun h => Bool.noConfusion (h.1.symm.trans (by assumption))
          | exact fun h => by omega
          | exact fun h => h.2.elim False.elim (none_of (by omega) hy3))
    | (rw [hnn]; clear hnn; omega)
    | (clear hex hst hy3 hz3 hQ hdg; omega)
    | (clear hex hst hy3 hz3 hQ hdg hLd hdm; omega)
end Go.Proofs.YtecephhhjhpcjaaGreatDoor.Stats
end
section
set_option linter.unusedVariables false
set_option linter.unusedSimpArgs false
-- emaX: s_bat, s_rep1, s_setl, List.length_replicate
namespace Go.Proofs.YtecephhhjhpcjaaGreatDoor.Stats
open Go Go.Proofs.YtecephhhjhpcjaaGreatDoor Go.Proofs.YtecephhhjhpcjaaGreatDoor.Em
theorem s_rep1 (x : EV) (n : Nat) : stdA.rep [x] n = List.replicate n x := by
  simp only [s_rep]
  induction n with
  | zero => rfl
  | succ n ih => simp [List.replicate_succ, ih]
theorem clL_mem {l : List EV} (h : clL l = true) (x : EV) (hx : x ∈ l) : clE x = true := by
  obtain ⟨j, hj⟩ := List.getElem?_of_mem hx
  exact clL_get h j x hj
theorem clL_setl {c v : List EV} (o : Nat) (hc : clL c = true) (hv : clL v = true) : clL (stdA.setl c o v) = true := clL_of fun x hx => by
  rw [s_setl] at hx
  rcases List.mem_append.1 hx with hx | hx
  · rcases List.mem_append.1 hx with hx | hx
    · exact clL_mem hc x (List.mem_of_mem_take hx)
    · exact clL_mem hv x hx
  · exact clL_mem hc x (List.mem_of_mem_drop hx)
theorem clL_rep1 (n : Nat) (x : EV) (h : clE x = true) : clL (stdA.rep [x] n) = true := clL_of fun y hy => by
  rw [s_rep1] at hy
  rw [List.eq_of_mem_replicate hy]; exact h
theorem clL_tak {c : List EV} (n : Nat) (hc : clL c = true) : clL (stdA.tak n c) = true := clL_of fun x hx => clL_mem hc x (List.mem_of_mem_take hx)
theorem nodesFs_app (path : List Nat) (inD : Bool) : ∀ (l m a : List Fld), nodesFs path a inD (l ++ m) = nodesFs path a inD l ++ nodesFs path (a ++ l) inD m
  | [], m, a => by simp [nodesFs]
  | f :: l, m, a => by
    have := nodesFs_app path inD l m (a ++ [f])
    simp only [List.cons_append, nodesFs, this, List.append_assoc, List.nil_append]
theorem nodesFs_step (path : List Nat) (inD : Bool) (l : List Fld) (z : Nat) (h : z < l.length) : nodesFs path [] inD (l.take (z + 1)) = nodesFs path [] inD (l.take z) ++ nodesF path (l.take z) inD (l.getD z fld0) := by
  rw [List.take_add_one, nodesFs_app, List.getElem?_eq_getElem h, List.getD_eq_getElem?_getD, List.getElem?_eq_getElem h]
  simp [nodesFs]
theorem ds_app (l m : List Nd) : cellsDs (l ++ m) = cellsDs l ++ cellsDs m := by
  induction l with
  | nil => rfl
  | cons f l ih => simp [cellsDs, ih]
theorem ds_push {A : Ar} (hA : A = stdA) {ds : List Nd} {bn : Nat} {bc x : List EV} (hbn : bn = ds.length) (hbc : bc = cellsDs ds) (nd : Nd) (hx : x = cellsD nd) :
    A.app (A.tak (A.mul bn 10) (A.drp 0 bc)) (A.tak (A.mul 1 10) (A.drp 0 x)) = cellsDs (ds ++ [nd]) := by
  subst hx; subst hbc; subst hbn
  rw [hA]
  simp only [s_app, s_tak, s_drp, s_mulN, List.drop_zero]
  rw [List.take_of_length_le (by rw [ds_length]; omega), List.take_of_length_le (by rw [cellsD_length]; decide), ds_app]
  simp [cellsDs]
theorem ds_push1 {A : Ar} (hA : A = stdA) {ds : List Nd} (h0 : ds = []) {x : List EV} (nd : Nd) (hx : x = cellsD nd) :
    A.tak (A.mul 1 10) (A.drp 0 x) = cellsDs (ds ++ [nd]) := by
  subst hx; subst h0
  rw [hA]
  simp only [s_tak, s_drp, s_mulN, List.drop_zero]
  rw [List.take_of_length_le (by rw [cellsD_length]; decide)]
  simp [cellsDs]
theorem take_more {α : Type} (a b : List α) (n : Nat) (h : n ≤ (a.take n).length) : (a ++ b).take n = a.take n := by
  simp at h
  rw [List.take_append_of_le_length (by omega)]
theorem okFs_get : ∀ {l : List Fld}, okFs l → ∀ (z : Nat), z < l.length → okF (l.getD z fld0)
  | [], _, z, h => by simp at h
  | f :: l, h, 0, _ => h.1
  | f :: l, h, z + 1, hz => okFs_get h.2 z (by simpa using hz)
def GrowR (all : List Pl) (v : EV) (h : EH) : Prop := ∃ (ds : List Nd) (bn : Nat) (bc : List EV), bn = ds.length ∧ bc = cellsDs ds ∧ ds.map Nd.p = all ∧ (∀ d ∈ ds, okD d) ∧
  ((v = .sl 10 0 0 bn none ∧ h = [.blk bc]) ∨ (v = .sl 10 1 0 bn none ∧ h = [.dead, .blk bc]))
def GrowR0 (all : List Pl) (v : EV) (h : EH) : Prop := ∃ (ds : List Nd) (bn : Nat) (bc : List EV), bn = ds.length ∧ bc = cellsDs ds ∧ ds.map Nd.p = all ∧ (∀ d ∈ ds, okD d) ∧
  ((v = .sl 10 0 0 bn none ∧ ∃ t, h = .blk bc :: t) ∨ (v = .sl 10 1 0 bn none ∧ ∃ t, h = .dead :: .blk bc :: t))
theorem clDs : ∀ l : List Nd, clL (cellsDs l) = true
  | [] => rfl
  | d :: l => by
    rw [cellsDs]
    refine clL_of fun x hx => ?_
    rcases List.mem_append.1 hx with hx | hx
    · simp only [cellsD, List.mem_cons, List.not_mem_nil, or_false] at hx
      rcases hx with rfl | rfl | rfl | rfl | rfl | rfl | rfl | rfl | rfl | rfl <;> rfl
    · exact clL_mem (clDs l) x hx
theorem GrowR0.done {all : List Pl} {v : EV} {h' h : EH} (hs : sizeH h = 1) (hr : GrowR0 all v h') : ∃ σ fr, σ.take (sizeH h) = List.range (sizeH h) ∧ okMv σ fr h' ∧ GrowR all (mvE (mvG σ fr) (mvZ fr h') v) (mvH σ fr h' σ) := by
  obtain ⟨ds, bn, bc, h1, h2, h3, h4, h5⟩ := hr
  have hcl : ∀ g z, mvL g z bc = bc := fun g z => mvL_cl _ _ _ (by rw [h2]; exact clDs ds)
  rw [hs]
  rcases h5 with ⟨hv, t, ht⟩ | ⟨hv, t, ht⟩ <;> subst hv <;> subst ht
  · exact ⟨[0], [], rfl, ⟨by simp, by simp [sizeH], by simp⟩, ds, bn, bc, h1, h2, h3, h4, .inl ⟨rfl, by simp [mvH, getH, mvO, inL, hcl]⟩⟩
  · exact ⟨[0, 1], [], rfl, ⟨by simp, by simp [sizeH], by simp⟩, ds, bn, bc, h1, h2, h3, h4, .inr ⟨rfl, by simp [mvH, getH, mvO, inL, hcl]⟩⟩
theorem GrowR0.stop {prev all : List Pl} {ds : List Nd} {bn : Nat} {bc : List EV} {h : EH} {v : EV} (more : List Pl) (e : prev ++ more = all) (hbn : bn = ds.length) (hbc : bc = cellsDs ds) (hds : ds.map Nd.p = prev.take 257) (hok : ∀ d ∈ ds, okD d) (hn : more = [] ∨ 257 ≤ bn)
    (hv : (v = .sl 10 0 0 bn none ∧ ∃ t, h = .blk bc :: t) ∨ (v = .sl 10 1 0 bn none ∧ ∃ t, h = .dead :: .blk bc :: t)) : GrowR0 (all.take 257) v h := by
  subst e
  refine ⟨ds, bn, bc, hbn, hbc, ?_, hok, hv⟩
  rcases hn with rfl | hn
  · simpa using hds
  · rw [take_more _ _ _ (by rw [← hds]; simpa [← hbn] using hn), hds]
abbrev GrowT0 (bn : Nat) (bc : List EV) (v : EV) (h : EH) : Prop := (bn = 0 ∧ v = .lit (.slice none 0 0) ∧ h = []) ∨ (v = .sl 10 0 0 bn none ∧ ∃ t, h = .blk bc :: t)
def GrowTR0 (all : List Pl) (v : EV) (h : EH) : Prop := ∃ (ds : List Nd) (bn : Nat) (bc : List EV), bn = ds.length ∧ bc = cellsDs ds ∧ ds.map Nd.p = all ∧ (∀ d ∈ ds, okD d) ∧ GrowT0 bn bc v h
def GrowT (all : List Pl) (v : EV) (h : EH) : Prop := ∃ (ds : List Nd) (bn : Nat) (bc : List EV), bn = ds.length ∧ bc = cellsDs ds ∧ ds.map Nd.p = all ∧ (∀ d ∈ ds, okD d) ∧
  ((bn = 0 ∧ v = .lit (.slice none 0 0) ∧ h = []) ∨ (v = .sl 10 0 0 bn none ∧ h = [.blk bc]))
theorem GrowTR0.done {all : List Pl} {v : EV} {h' h : EH} (hs : sizeH h = 0) (hr : GrowTR0 all v h') : ∃ σ fr, σ.take (sizeH h) = List.range (sizeH h) ∧ okMv σ fr h' ∧ GrowT all (mvE (mvG σ fr) (mvZ fr h') v) (mvH σ fr h' σ) := by
  obtain ⟨ds, bn, bc, h1, h2, h3, h4, h5⟩ := hr
  have hcl : ∀ g z, mvL g z bc = bc := fun g z => mvL_cl _ _ _ (by rw [h2]; exact clDs ds)
  rw [hs]
  rcases h5 with ⟨h0, hv, ht⟩ | ⟨hv, t, ht⟩ <;> subst hv <;> subst ht
  · exact ⟨[], [], rfl, ⟨by simp, by simp [sizeH], by simp⟩, ds, bn, bc, h1, h2, h3, h4, .inl ⟨h0, rfl, rfl⟩⟩
  · exact ⟨[0], [], rfl, ⟨by simp, by simp [sizeH], by simp⟩, ds, bn, bc, h1, h2, h3, h4, .inr ⟨rfl, by simp [mvH, getH, mvO, inL, hcl]⟩⟩
theorem GrowTR0.stop {prev all : List Pl} {ds : List Nd} {bn : Nat} {bc : List EV} {h : EH} {v : EV} (more : List Pl) (e : prev ++ more = all) (hbn : bn = ds.length) (hbc : bc = cellsDs ds) (hds : ds.map Nd.p = prev.take 257) (hok : ∀ d ∈ ds, okD d) (hn : more = [] ∨ 257 ≤ bn)
    (hv : GrowT0 bn bc v h) : GrowTR0 (all.take 257) v h := by
  subst e
  refine ⟨ds, bn, bc, hbn, hbc, ?_, hok, hv⟩
  rcases hn with rfl | hn
  · simpa using hds
  · rw [take_more _ _ _ (by rw [← hds]; simpa [← hbn] using hn), hds]
theorem sub2a (a b c : EO) {x : List EV} (h : ∀ g z, mvL g z x = x) : subH [2] [a, b, c] [.blk x] = [a, b, .blk x] := by
  show [a, b, EO.blk (mvL _ _ x)] = _
  rw [h]
theorem sub2b (a b c : EO) {x : List EV} (h : ∀ g z, mvL g z x = x) : subH [2] [a, b, c] [.dead, .blk x] = [a, b, .dead, .blk x] := by
  show [a, b, EO.dead, EO.blk (mvL _ _ x)] = _
  rw [h]
theorem grow_one {X : List Pl} {ds : List Nd} {nd : Nd} (hds : ds.map Nd.p = X.take 257) (h : ds.length ≤ 256) : (ds ++ [nd]).map Nd.p = X ++ [nd.p] := by
  have h1 : (X.take 257).length = ds.length := by rw [← hds]; simp
  rw [List.length_take] at h1
  rw [List.map_append, hds, List.take_of_length_le (by omega)]
  rfl
theorem sub3a (a b c d : EO) {x : List EV} (h : ∀ g z, mvL g z x = x) : subH [3] [a, b, c, d] [.blk x] = [a, b, c, .blk x] := by
  show [a, b, c, EO.blk (mvL _ _ x)] = _
  rw [h]
theorem sub3b (a b c d : EO) {x : List EV} (h : ∀ g z, mvL g z x = x) : subH [3] [a, b, c, d] [.dead, .blk x] = [a, b, c, .dead, .blk x] := by
  show [a, b, c, EO.dead, EO.blk (mvL _ _ x)] = _
  rw [h]
theorem sub4a (e a b c d : EO) {x : List EV} (h : ∀ g z, mvL g z x = x) : subH [4] [e, a, b, c, d] [.blk x] = [e, a, b, c, .blk x] := by
  show [e, a, b, c, EO.blk (mvL _ _ x)] = _
  rw [h]
theorem sub4b (e a b c d : EO) {x : List EV} (h : ∀ g z, mvL g z x = x) : subH [4] [e, a, b, c, d] [.dead, .blk x] = [e, a, b, c, .dead, .blk x] := by
  show [e, a, b, c, EO.dead, EO.blk (mvL _ _ x)] = _
  rw [h]
set_option maxRecDepth 100000 in
set_option maxHeartbeats 8000000 in
theorem grow_more : ∀ (lev : Nat) (l : List Fld) (path : List Nat) (pc : List EV) (inD : Bool) (prev : List Nd) (N M n0 : Nat) (bc0 lc : List EV), 65 ≤ path.length + lev → path.length ≤ 64 → pc.length = path.length → clL pc = true → okFs l → l.length ≤ 140737488351232 → (∀ d ∈ prev, okD d) → prev.length ≤ 257 →
    N = path.length → M = prev.length → bc0 = cellsDs prev → n0 = l.length → lc = cellsFs l → Tri Tryz.prog gs 55 [.isl n0 none lc, .isl N none pc, .sb inD, .sl 10 0 0 M none] [.blk bc0] fun v h' => GrowR ((prev.map Nd.p ++ nodesFs path [] inD l).take 257) v h' := by
  intro lev
  induction lev with
  | zero => intro l path pc inD prev N M n0 bc0 lc h1 h2; omega
  | succ lev ihl =>
  intro l path pc inD prev pn M n0 bc0 lc hlev hp64 hpc hpc2 hokl hll hokp hpl hN hM hbc0 hn0 hlc
  refine Tri.mv (R := GrowR0 ((prev.map Nd.p ++ nodesFs path [] inD l).take 257)) (Tri_of F55_ok fun I0 ρ0 w0 Q hρ hQ => ?_) fun v h' hr => hr.done rfl
  obtain ⟨A, hA⟩ : ∃ A, A = stdA := ⟨_, rfl⟩
  with_reducible refine runS hA hd hQ 200 ?hk ?_
  case hk => exact trivial
  conv => arg 9; cbv
  try simp only [OK]
  repeat' first | (with_reducible refine OKK.loop ?_) | (with_reducible refine OKK.again ?_) | ((with_reducible refine ⟨fun hbr => ?_, fun hbr => ?_⟩) <;> (try simp (disch := omega) only [hA, OK, emaU, Int.reduceToNat, s_bat, s_rep1, s_setl, List.length_replicate, reduceCtorEq] at hbr) <;> (try (with_reducible exfalso; omega))) | ((with_reducible refine runK hA hd hQ 200 ?hk ?_); (case hk => exact trivial); (conv => arg 9; cbv); (try simp only [OK])) | ((with_reducible refine need_of ?hn ?_); (case hn => ((simp (disch := omega) only [hA, OK, emaU, Int.reduceToNat, s_bat, s_rep1, s_setl, List.length_replicate]) <;> omega)))
  refine OKs.mask (msk 63 [0, 1, 2, 3, 12, 13, 14]) ?_
  refine OKs.loopN (fun n st => ∃ (z : Int) (ds : List Nd) (bn : Nat) (bc : List EV), (st = ⟨mkT 63 [(0, .isl n0 none lc), (1, .isl pn none pc), (2, .sb inD), (3, .sl 10 0 0 bn none), (12, .isl n0 none lc), (13, .lit (.int .i64 (A.ofn n0))), (14, .lit (.int .i64 z))], [.blk bc]⟩ ∨ st = ⟨mkT 63 [(0, .isl n0 none lc), (1, .isl pn none pc), (2, .sb inD), (3, .sl 10 1 0 bn none), (12, .isl n0 none lc), (13, .lit (.int .i64 (A.ofn n0))), (14, .lit (.int .i64 z))], [.dead, .blk bc]⟩) ∧ n = (n0 - z).toNat ∧ 0 ≤ z ∧ z ≤ n0 ∧ bn = ds.length ∧ bc = cellsDs ds ∧ ds.map Nd.p = (prev.map Nd.p ++ nodesFs path [] inD (l.take z.toNat)).take 257 ∧ ∀ d ∈ ds, okD d) (fun n st hs' ih => ?_) ⟨0, prev, M, bc0, .inl rfl, rfl, by omega, by omega, hM, hbc0, by rw [show (0 : Int).toNat = 0 from rfl, List.take_zero, nodesFs, List.append_nil, List.take_of_length_le (by simp; omega)], hokp⟩
  obtain ⟨z, ds, bn, bc, hst, hnn, hz1, hz2, hbn, hbc, hds, hdok⟩ := hs'
  have hmv : ∀ g z, mvL g z bc = bc := fun g z => mvL_cl _ _ _ (by rw [hbc]; exact clDs ds)
  have hbl : bc.length = 10 * bn := by rw [hbc, hbn, ds_length]
  have hdl : ds.length ≤ 257 := by rw [show ds.length = (ds.map Nd.p).length by simp, hds]; simp; omega
  have hsplit : (prev.map Nd.p ++ nodesFs path [] inD (l.take z.toNat)) ++ nodesFs path (l.take z.toNat) inD (l.drop z.toNat) = prev.map Nd.p ++ nodesFs path [] inD l := by
    conv => rhs; rw [← List.take_append_drop z.toNat l, nodesFs_app]
    simp
  have hend : ¬ z < n0 → nodesFs path (l.take z.toNat) inD (l.drop z.toNat) = [] := fun h => by rw [List.drop_eq_nil_of_le (by omega)]; rfl
  obtain ⟨f, hf⟩ : ∃ f, f = l.getD z.toNat fld0 := ⟨_, rfl⟩
  have hLf : z < n0 → List.take 7 (List.drop (A.idx 0 z 7) lc) = cellsF f := fun hz => by rw [hA, hlc, hf, ← fs_get l z.toNat (by omega), s_idx, Nat.zero_add]
  have hokf : z < n0 → okF f := fun hz => by rw [hf]; exact okFs_get hokl _ (by omega)
  obtain ⟨nm, nul, k, w, i, x, kids⟩ := f
  simp only [cellsF] at hLf
  obtain ⟨kn, hkn⟩ : ∃ n, n = kids.length := ⟨_, rfl⟩
  obtain ⟨kc, hkc⟩ : ∃ c, c = cellsFs kids := ⟨_, rfl⟩
  rw [← hkn, ← hkc] at hLf
  rcases hst with rfl | rfl
  ·
    have hdl0 : ds.length ≤ 257 := hdl
    with_reducible refine runS hA hd hQ 1 ?hk ?_
    case hk => exact trivial
    conv => arg 9; cbv
    try simp only [OK]
    repeat' first | (with_reducible refine OKK.loop ?_) | (with_reducible refine OKK.again ?_) | (with_reducible refine OKK.stopS (some 35) ?_) | (with_reducible refine OKK.stopO (some 35) ?_) | ((with_reducible refine ⟨fun hbr => ?_, fun hbr => ?_⟩) <;> (try simp (disch := omega) only [hA, OK, emaU, Int.reduceToNat, s_bat, s_rep1, s_setl, List.length_replicate, reduceCtorEq] at hbr) <;> (try (with_reducible exfalso; omega))) | ((with_reducible refine runK hA hd hQ 1 ?hk ?_); (case hk => exact trivial); (conv => arg 9; cbv); (try simp only [OK])) | ((with_reducible refine need_of ?hn ?_); (case hn => ((simp (disch := omega) only [hA, OK, emaU, Int.reduceToNat, s_bat, s_rep1, s_setl, List.length_replicate]) <;> omega))) | ((refine ⟨_, _, ?l1, (hLf (by omega)), rfl, ?_⟩); (case l1 => exact rfl))
    all_goals try ((with_reducible refine FinR.self ?_); refine FinR.intro rfl (GrowR0.stop _ hsplit hbn hbc hds hdok (by first | exact .inr (by omega) | exact .inl (hend (by omega))) (.inl ⟨rfl, _, rfl⟩)))
    refine OKs.mask (msk 63 [0, 1, 2, 3, 9, 10, 11, 12, 13, 14]) ?_
    refine OKs.mv [0, 1] [2] (by rw [hρ]; rfl) ⟨by decide, by simp [sizeH], fun id hid => by simp at hid; subst hid; exact ⟨_, rfl, by rw [hA]; exact clL_setl _ (clL_setl _ (clL_rep1 _ _ rfl) (clL_tak _ (clL_tak _ hpc2))) rfl⟩⟩ ?_
    simp only [mvSt, mvH, getH, mvO, hmv]
    obtain ⟨wn, hwn⟩ : ∃ n, n = A.tn (A.ib .add .i64 (A.ofn pn) 1) := ⟨_, rfl⟩
    obtain ⟨wc, hwc⟩ : ∃ c, c = A.setl (A.setl (A.rep [.lit (.int .i64 0)] (A.tn (A.ib .add .i64 (A.ofn pn) 1))) 0 (A.tak (A.mul (A.nmin pn (A.tn (A.ib .add .i64 (A.ofn pn) 1))) 1) (A.tak (A.mul pn 1) pc))) (A.idx 0 (A.ofn pn) 1) [.lit (.int .i64 z)] := ⟨_, rfl⟩
    refine OKs.up 11 (.isl wn none wc) (by rw [hwn, hwc]; exact Up.cap _ _ _) ?_
    have hwn1 : wn = pn + 1 := by rw [hwn, hA, s_tn, s_ofn, s_add _ _ (by omega) (by omega)]; omega
    have hwc1 : wc.length = pn + 1 := by
      rw [hwc]; simp (disch := omega) only [hA, OK, emaU, Int.reduceToNat, s_bat, s_rep1, s_setl, List.length_replicate , Int.toNat_natCast]; omega
    have hwc2 : clL wc = true := by rw [hwc, hA]; exact clL_setl _ (clL_setl _ (clL_rep1 _ _ rfl) (clL_tak _ (clL_tak _ hpc2))) rfl
    clear hwn hwc
    obtain ⟨nd, hnd⟩ : ∃ nd : Nd, nd = ⟨⟨path ++ [(l.take z.toNat).length], l.take z.toNat, .mk nm nul k w i x kids, inD⟩, none, wc, l.drop z.toNat⟩ := ⟨_, rfl⟩
    have htk : (l.take z.toNat).length = z.toNat := by rw [List.length_take]; omega
    have hpl1 : (path ++ [(l.take z.toNat).length]).length = pn + 1 := by simp [hN]
    have hkok := hokf (by assumption)
    have hds1 := grow_one (nd := nd) hds (by omega)
    have hcell : [.isl wn none wc, .lit (.string nm), .lit (.bool nul), .lit (.int .i64 k), .lit (.int .i64 w), .lit (.int .i64 i), .lit (.int .i64 x), .isl kn none kc, .isl (A.sub (A.tn z) (A.tn 0)) none (A.drp (A.mul (A.tn 0) 7) lc), .sb inD] = cellsD nd := by
      rw [hnd, cellsD]
      simp only [nm_mk, nul_mk, kind_mk, width_mk, id_mk, idx_mk, kids_mk, hA, s_tn, s_subN, s_drp, s_mulN, List.take_append_drop, List.length_append, List.length_cons, List.length_nil, htk, Int.reduceToNat, Nat.zero_mul, List.drop_zero, Nat.sub_zero, ← hlc, ← hkn, ← hkc, hwn1, hN]
    have hpush := ds_push hA hbn hbc nd hcell
    have hndok : okD nd := by rw [hnd]; exact ⟨by simp only [List.length_append, List.length_cons, List.length_nil]; omega, by simp only [htk]; omega, hokf (by assumption)⟩
    have hdok1 : ∀ d ∈ ds ++ [nd], okD d := fun d hd => (List.mem_append.1 hd).elim (hdok d) fun h => by rw [List.mem_singleton.1 h]; exact hndok
    have hndp : nd.p = ⟨path ++ [(l.take z.toNat).length], l.take z.toNat, .mk nm nul k w i x kids, inD⟩ := by rw [hnd]
    have hstep := nodesFs_step path inD l z.toNat (by omega)
    rw [← hf, nodesF, ← hndp] at hstep
    with_reducible refine runS hA hd hQ 200 ?hk ?_
    case hk => exact trivial
    conv => arg 9; cbv
    try simp only [OK]
    repeat' first | (with_reducible refine OKK.loop ?_) | (with_reducible refine OKK.again ?_) | ((with_reducible refine ⟨fun hbr => ?_, fun hbr => ?_⟩) <;> (try simp (disch := omega) only [hA, OK, emaU, Int.reduceToNat, s_bat, s_rep1, s_setl, List.length_replicate, reduceCtorEq] at hbr) <;> (try (with_reducible exfalso; omega))) | ((with_reducible refine runK hA hd hQ 200 ?hk ?_); (case hk => exact trivial); (conv => arg 9; cbv); (try simp only [OK])) | ((with_reducible refine need_of ?hn ?_); (case hn => ((simp (disch := omega) only [hA, OK, emaU, Int.reduceToNat, s_bat, s_rep1, s_setl, List.length_replicate]) <;> omega)))
    rotate_right
    · have hz1' : (A.ib .add .i64 z 1).toNat = z.toNat + 1 := by simp (disch := omega) only [hA, OK, emaU, Int.reduceToNat, s_bat, s_rep1, s_setl, List.length_replicate]; omega
      refine OKs.mask (msk 63 [0, 1, 2, 3, 12, 13, 14]) (OKs.mv [0, 3] [] (by rw [hρ]; rfl) ⟨by decide, by simp [sizeH], by simp⟩ (ih _ _ ⟨A.ib .add .i64 z 1, ds ++ [nd], _, _, .inr rfl, rfl, ?_, ?_, (by rw [hA]; simp [s_addN, hbn]), ((congrArg _ hpush).trans (mvL_cl _ _ _ (clDs _))), ?_, hdok1⟩ ?_))
      · simp (disch := omega) only [hA, OK, emaU, Int.reduceToNat, s_bat, s_rep1, s_setl, List.length_replicate]; omega
      · simp (disch := omega) only [hA, OK, emaU, Int.reduceToNat, s_bat, s_rep1, s_setl, List.length_replicate]; omega
      · rw [hz1', hstep, if_neg (by omega), hds1, List.append_assoc]; exact (List.take_of_length_le (by rw [← List.append_assoc, ← hds1]; simp; omega)).symm
      · simp (disch := omega) only [hA, OK, emaU, Int.reduceToNat, s_bat, s_rep1, s_setl, List.length_replicate]; omega
    all_goals
      refine CallOK.of (goodF_of F55_ok) (Tri.mono (Tri.sub [3] [] ⟨by decide, by simp [sizeH], by simp⟩ (by simp) (Tri.args (ihl kids (path ++ [(l.take z.toNat).length]) _ (inD || decide (k = 19)) (ds ++ [nd]) _ _ _ _ _ (by rw [hpl1]; omega) (by rw [hpl1]; omega) (by rw [hpl1]; exact hwc1) hwc2 hkok.2.2.2.2.2.2 hkok.2.2.2.2.2.1 hdok1 (by simp; omega) (by rw [hpl1]; exact hwn1) (by rw [hA]; simp [s_addN, hbn]) ((congrArg _ hpush).trans (mvL_cl _ _ _ (clDs _))) hkn hkc) (UpL.cons (Up.refl _) (UpL.cons (Up.refl _) (UpL.cons (by first | (rw [show (inD || decide (k = 19)) = true by simp only [(by assumption : inD = true), Bool.true_or]]; exact Up.sb _) | (rw [show (inD || decide (k = 19)) = A.ic .eql k 19 by rw [hA, s_eql, (by assumption : inD = false), Bool.false_or]]; exact Up.refl _)) (UpL.cons (Up.refl _) UpL.nil))))) (.inl rfl)) fun v hh hx => ?_)
    all_goals
      obtain ⟨v0, h0, ⟨ds2, bn2, bc2, hbn2, hbc2, hds2, hdok2, hor⟩, hv2, hh2⟩ := hx
      have hmv2 : ∀ g z, mvL g z bc2 = bc2 := fun g z => mvL_cl _ _ _ (by rw [hbc2]; exact clDs ds2)
      rcases hor with ⟨e1, e2⟩ | ⟨e1, e2⟩ <;> subst e1 <;> subst e2 <;> subst hv2 <;> subst hh2
      · rw [sub3a _ _ _ _ hmv2]
        repeat' first | (with_reducible refine OKK.loop ?_) | (with_reducible refine OKK.again ?_) | ((with_reducible refine ⟨fun hbr => ?_, fun hbr => ?_⟩) <;> (try simp (disch := omega) only [hA, OK, emaU, Int.reduceToNat, s_bat, s_rep1, s_setl, List.length_replicate, reduceCtorEq] at hbr) <;> (try (with_reducible exfalso; omega))) | ((with_reducible refine runK hA hd hQ 200 ?hk ?_); (case hk => exact trivial); (conv => arg 9; cbv); (try simp only [OK])) | ((with_reducible refine need_of ?hn ?_); (case hn => ((simp (disch := omega) only [hA, OK, emaU, Int.reduceToNat, s_bat, s_rep1, s_setl, List.length_replicate]) <;> omega)))
        have hz1' : (A.ib .add .i64 z 1).toNat = z.toNat + 1 := by simp (disch := omega) only [hA, OK, emaU, Int.reduceToNat, s_bat, s_rep1, s_setl, List.length_replicate]; omega
        refine OKs.mask (msk 63 [0, 1, 2, 3, 12, 13, 14]) (OKs.mv [0, 3] [] (by rw [hρ]; rfl) ⟨by decide, by simp [sizeH], by simp⟩ (ih _ _ ⟨A.ib .add .i64 z 1, ds2, _, _, .inr rfl, rfl, ?_, ?_, hbn2, ((hmv2 _ _).trans hbc2), ?_, hdok2⟩ ?_))
        · simp (disch := omega) only [hA, OK, emaU, Int.reduceToNat, s_bat, s_rep1, s_setl, List.length_replicate]; omega
        · simp (disch := omega) only [hA, OK, emaU, Int.reduceToNat, s_bat, s_rep1, s_setl, List.length_replicate]; omega
        · rw [hz1', hstep, if_pos (by omega), hds2, hds1, List.append_assoc, List.append_assoc, List.singleton_append]
        · simp (disch := omega) only [hA, OK, emaU, Int.reduceToNat, s_bat, s_rep1, s_setl, List.length_replicate]; omega
      · rw [sub3b _ _ _ _ hmv2]
        repeat' first | (with_reducible refine OKK.loop ?_) | (with_reducible refine OKK.again ?_) | ((with_reducible refine ⟨fun hbr => ?_, fun hbr => ?_⟩) <;> (try simp (disch := omega) only [hA, OK, emaU, Int.reduceToNat, s_bat, s_rep1, s_setl, List.length_replicate, reduceCtorEq] at hbr) <;> (try (with_reducible exfalso; omega))) | ((with_reducible refine runK hA hd hQ 200 ?hk ?_); (case hk => exact trivial); (conv => arg 9; cbv); (try simp only [OK])) | ((with_reducible refine need_of ?hn ?_); (case hn => ((simp (disch := omega) only [hA, OK, emaU, Int.reduceToNat, s_bat, s_rep1, s_setl, List.length_replicate]) <;> omega)))
        have hz1' : (A.ib .add .i64 z 1).toNat = z.toNat + 1 := by simp (disch := omega) only [hA, OK, emaU, Int.reduceToNat, s_bat, s_rep1, s_setl, List.length_replicate]; omega
        refine OKs.mask (msk 63 [0, 1, 2, 3, 12, 13, 14]) (OKs.mv [0, 4] [] (by rw [hρ]; rfl) ⟨by decide, by simp [sizeH], by simp⟩ (ih _ _ ⟨A.ib .add .i64 z 1, ds2, _, _, .inr rfl, rfl, ?_, ?_, hbn2, ((hmv2 _ _).trans hbc2), ?_, hdok2⟩ ?_))
        · simp (disch := omega) only [hA, OK, emaU, Int.reduceToNat, s_bat, s_rep1, s_setl, List.length_replicate]; omega
        · simp (disch := omega) only [hA, OK, emaU, Int.reduceToNat, s_bat, s_rep1, s_setl, List.length_replicate]; omega
        · rw [hz1', hstep, if_pos (by omega), hds2, hds1, List.append_assoc, List.append_assoc, List.singleton_append]
        · simp (disch := omega) only [hA, OK, emaU, Int.reduceToNat, s_bat, s_rep1, s_setl, List.length_replicate]; omega
  ·
    have hdl0 : ds.length ≤ 257 := hdl
    with_reducible refine runS hA hd hQ 1 ?hk ?_
    case hk => exact trivial
    conv => arg 9; cbv
    try simp only [OK]
    repeat' first | (with_reducible refine OKK.loop ?_) | (with_reducible refine OKK.again ?_) | (with_reducible refine OKK.stopS (some 35) ?_) | (with_reducible refine OKK.stopO (some 35) ?_) | ((with_reducible refine ⟨fun hbr => ?_, fun hbr => ?_⟩) <;> (try simp (disch := omega) only [hA, OK, emaU, Int.reduceToNat, s_bat, s_rep1, s_setl, List.length_replicate, reduceCtorEq] at hbr) <;> (try (with_reducible exfalso; omega))) | ((with_reducible refine runK hA hd hQ 1 ?hk ?_); (case hk => exact trivial); (conv => arg 9; cbv); (try simp only [OK])) | ((with_reducible refine need_of ?hn ?_); (case hn => ((simp (disch := omega) only [hA, OK, emaU, Int.reduceToNat, s_bat, s_rep1, s_setl, List.length_replicate]) <;> omega))) | ((refine ⟨_, _, ?l1, (hLf (by omega)), rfl, ?_⟩); (case l1 => exact rfl))
    all_goals try ((with_reducible refine FinR.self ?_); refine FinR.intro rfl (GrowR0.stop _ hsplit hbn hbc hds hdok (by first | exact .inr (by omega) | exact .inl (hend (by omega))) (.inr ⟨rfl, _, rfl⟩)))
    refine OKs.mask (msk 63 [0, 1, 2, 3, 9, 10, 11, 12, 13, 14]) ?_
    refine OKs.mv [0, 1, 2] [3] (by rw [hρ]; rfl) ⟨by decide, by simp [sizeH], fun id hid => by simp at hid; subst hid; exact ⟨_, rfl, by rw [hA]; exact clL_setl _ (clL_setl _ (clL_rep1 _ _ rfl) (clL_tak _ (clL_tak _ hpc2))) rfl⟩⟩ ?_
    simp only [mvSt, mvH, getH, mvO, hmv]
    obtain ⟨wn, hwn⟩ : ∃ n, n = A.tn (A.ib .add .i64 (A.ofn pn) 1) := ⟨_, rfl⟩
    obtain ⟨wc, hwc⟩ : ∃ c, c = A.setl (A.setl (A.rep [.lit (.int .i64 0)] (A.tn (A.ib .add .i64 (A.ofn pn) 1))) 0 (A.tak (A.mul (A.nmin pn (A.tn (A.ib .add .i64 (A.ofn pn) 1))) 1) (A.tak (A.mul pn 1) pc))) (A.idx 0 (A.ofn pn) 1) [.lit (.int .i64 z)] := ⟨_, rfl⟩
    refine OKs.up 11 (.isl wn none wc) (by rw [hwn, hwc]; exact Up.cap _ _ _) ?_
    have hwn1 : wn = pn + 1 := by rw [hwn, hA, s_tn, s_ofn, s_add _ _ (by omega) (by omega)]; omega
    have hwc1 : wc.length = pn + 1 := by
      rw [hwc]; simp (disch := omega) only [hA, OK, emaU, Int.reduceToNat, s_bat, s_rep1, s_setl, List.length_replicate , Int.toNat_natCast]; omega
    have hwc2 : clL wc = true := by rw [hwc, hA]; exact clL_setl _ (clL_setl _ (clL_rep1 _ _ rfl) (clL_tak _ (clL_tak _ hpc2))) rfl
    clear hwn hwc
    obtain ⟨nd, hnd⟩ : ∃ nd : Nd, nd = ⟨⟨path ++ [(l.take z.toNat).length], l.take z.toNat, .mk nm nul k w i x kids, inD⟩, none, wc, l.drop z.toNat⟩ := ⟨_, rfl⟩
    have htk : (l.take z.toNat).length = z.toNat := by rw [List.length_take]; omega
    have hpl1 : (path ++ [(l.take z.toNat).length]).length = pn + 1 := by simp [hN]
    have hkok := hokf (by assumption)
    have hds1 := grow_one (nd := nd) hds (by omega)
    have hcell : [.isl wn none wc, .lit (.string nm), .lit (.bool nul), .lit (.int .i64 k), .lit (.int .i64 w), .lit (.int .i64 i), .lit (.int .i64 x), .isl kn none kc, .isl (A.sub (A.tn z) (A.tn 0)) none (A.drp (A.mul (A.tn 0) 7) lc), .sb inD] = cellsD nd := by
      rw [hnd, cellsD]
      simp only [nm_mk, nul_mk, kind_mk, width_mk, id_mk, idx_mk, kids_mk, hA, s_tn, s_subN, s_drp, s_mulN, List.take_append_drop, List.length_append, List.length_cons, List.length_nil, htk, Int.reduceToNat, Nat.zero_mul, List.drop_zero, Nat.sub_zero, ← hlc, ← hkn, ← hkc, hwn1, hN]
    have hpush := ds_push hA hbn hbc nd hcell
    have hndok : okD nd := by rw [hnd]; exact ⟨by simp only [List.length_append, List.length_cons, List.length_nil]; omega, by simp only [htk]; omega, hokf (by assumption)⟩
    have hdok1 : ∀ d ∈ ds ++ [nd], okD d := fun d hd => (List.mem_append.1 hd).elim (hdok d) fun h => by rw [List.mem_singleton.1 h]; exact hndok
    have hndp : nd.p = ⟨path ++ [(l.take z.toNat).length], l.take z.toNat, .mk nm nul k w i x kids, inD⟩ := by rw [hnd]
    have hstep := nodesFs_step path inD l z.toNat (by omega)
    rw [← hf, nodesF, ← hndp] at hstep
    with_reducible refine runS hA hd hQ 200 ?hk ?_
    case hk => exact trivial
    conv => arg 9; cbv
    try simp only [OK]
    repeat' first | (with_reducible refine OKK.loop ?_) | (with_reducible refine OKK.again ?_) | ((with_reducible refine ⟨fun hbr => ?_, fun hbr => ?_⟩) <;> (try simp (disch := omega) only [hA, OK, emaU, Int.reduceToNat, s_bat, s_rep1, s_setl, List.length_replicate, reduceCtorEq] at hbr) <;> (try (with_reducible exfalso; omega))) | ((with_reducible refine runK hA hd hQ 200 ?hk ?_); (case hk => exact trivial); (conv => arg 9; cbv); (try simp only [OK])) | ((with_reducible refine need_of ?hn ?_); (case hn => ((simp (disch := omega) only [hA, OK, emaU, Int.reduceToNat, s_bat, s_rep1, s_setl, List.length_replicate]) <;> omega)))
    rotate_right
    · have hz1' : (A.ib .add .i64 z 1).toNat = z.toNat + 1 := by simp (disch := omega) only [hA, OK, emaU, Int.reduceToNat, s_bat, s_rep1, s_setl, List.length_replicate]; omega
      refine OKs.mask (msk 63 [0, 1, 2, 3, 12, 13, 14]) (OKs.mv [0, 4] [] (by rw [hρ]; rfl) ⟨by decide, by simp [sizeH], by simp⟩ (ih _ _ ⟨A.ib .add .i64 z 1, ds ++ [nd], _, _, .inr rfl, rfl, ?_, ?_, (by rw [hA]; simp [s_addN, hbn]), ((congrArg _ hpush).trans (mvL_cl _ _ _ (clDs _))), ?_, hdok1⟩ ?_))
      · simp (disch := omega) only [hA, OK, emaU, Int.reduceToNat, s_bat, s_rep1, s_setl, List.length_replicate]; omega
      · simp (disch := omega) only [hA, OK, emaU, Int.reduceToNat, s_bat, s_rep1, s_setl, List.length_replicate]; omega
      · rw [hz1', hstep, if_neg (by omega), hds1, List.append_assoc]; exact (List.take_of_length_le (by rw [← List.append_assoc, ← hds1]; simp; omega)).symm
      · simp (disch := omega) only [hA, OK, emaU, Int.reduceToNat, s_bat, s_rep1, s_setl, List.length_replicate]; omega
    all_goals
      refine CallOK.of (goodF_of F55_ok) (Tri.mono (Tri.sub [4] [] ⟨by decide, by simp [sizeH], by simp⟩ (by simp) (Tri.args (ihl kids (path ++ [(l.take z.toNat).length]) _ (inD || decide (k = 19)) (ds ++ [nd]) _ _ _ _ _ (by rw [hpl1]; omega) (by rw [hpl1]; omega) (by rw [hpl1]; exact hwc1) hwc2 hkok.2.2.2.2.2.2 hkok.2.2.2.2.2.1 hdok1 (by simp; omega) (by rw [hpl1]; exact hwn1) (by rw [hA]; simp [s_addN, hbn]) ((congrArg _ hpush).trans (mvL_cl _ _ _ (clDs _))) hkn hkc) (UpL.cons (Up.refl _) (UpL.cons (Up.refl _) (UpL.cons (by first | (rw [show (inD || decide (k = 19)) = true by simp only [(by assumption : inD = true), Bool.true_or]]; exact Up.sb _) | (rw [show (inD || decide (k = 19)) = A.ic .eql k 19 by rw [hA, s_eql, (by assumption : inD = false), Bool.false_or]]; exact Up.refl _)) (UpL.cons (Up.refl _) UpL.nil))))) (.inl rfl)) fun v hh hx => ?_)
    all_goals
      obtain ⟨v0, h0, ⟨ds2, bn2, bc2, hbn2, hbc2, hds2, hdok2, hor⟩, hv2, hh2⟩ := hx
      have hmv2 : ∀ g z, mvL g z bc2 = bc2 := fun g z => mvL_cl _ _ _ (by rw [hbc2]; exact clDs ds2)
      rcases hor with ⟨e1, e2⟩ | ⟨e1, e2⟩ <;> subst e1 <;> subst e2 <;> subst hv2 <;> subst hh2
      · rw [sub4a _ _ _ _ _ hmv2]
        repeat' first | (with_reducible refine OKK.loop ?_) | (with_reducible refine OKK.again ?_) | ((with_reducible refine ⟨fun hbr => ?_, fun hbr => ?_⟩) <;> (try simp (disch := omega) only [hA, OK, emaU, Int.reduceToNat, s_bat, s_rep1, s_setl, List.length_replicate, reduceCtorEq] at hbr) <;> (try (with_reducible exfalso; omega))) | ((with_reducible refine runK hA hd hQ 200 ?hk ?_); (case hk => exact trivial); (conv => arg 9; cbv); (try simp only [OK])) | ((with_reducible refine need_of ?hn ?_); (case hn => ((simp (disch := omega) only [hA, OK, emaU, Int.reduceToNat, s_bat, s_rep1, s_setl, List.length_replicate]) <;> omega)))
        have hz1' : (A.ib .add .i64 z 1).toNat = z.toNat + 1 := by simp (disch := omega) only [hA, OK, emaU, Int.reduceToNat, s_bat, s_rep1, s_setl, List.length_replicate]; omega
        refine OKs.mask (msk 63 [0, 1, 2, 3, 12, 13, 14]) (OKs.mv [0, 4] [] (by rw [hρ]; rfl) ⟨by decide, by simp [sizeH], by simp⟩ (ih _ _ ⟨A.ib .add .i64 z 1, ds2, _, _, .inr rfl, rfl, ?_, ?_, hbn2, ((hmv2 _ _).trans hbc2), ?_, hdok2⟩ ?_))
        · simp (disch := omega) only [hA, OK, emaU, Int.reduceToNat, s_bat, s_rep1, s_setl, List.length_replicate]; omega
        · simp (disch := omega) only [hA, OK, emaU, Int.reduceToNat, s_bat, s_rep1, s_setl, List.length_replicate]; omega
        · rw [hz1', hstep, if_pos (by omega), hds2, hds1, List.append_assoc, List.append_assoc, List.singleton_append]
        · simp (disch := omega) only [hA, OK, emaU, Int.reduceToNat, s_bat, s_rep1, s_setl, List.length_replicate]; omega
      · rw [sub4b _ _ _ _ _ hmv2]
        repeat' first | (with_reducible refine OKK.loop ?_) | (with_reducible refine OKK.again ?_) | ((with_reducible refine ⟨fun hbr => ?_, fun hbr => ?_⟩) <;> (try simp (disch := omega) only [hA, OK, emaU, Int.reduceToNat, s_bat, s_rep1, s_setl, List.length_replicate, reduceCtorEq] at hbr) <;> (try (with_reducible exfalso; omega))) | ((with_reducible refine runK hA hd hQ 200 ?hk ?_); (case hk => exact trivial); (conv => arg 9; cbv); (try simp only [OK])) | ((with_reducible refine need_of ?hn ?_); (case hn => ((simp (disch := omega) only [hA, OK, emaU, Int.reduceToNat, s_bat, s_rep1, s_setl, List.length_replicate]) <;> omega)))
        have hz1' : (A.ib .add .i64 z 1).toNat = z.toNat + 1 := by simp (disch := omega) only [hA, OK, emaU, Int.reduceToNat, s_bat, s_rep1, s_setl, List.length_replicate]; omega
        refine OKs.mask (msk 63 [0, 1, 2, 3, 12, 13, 14]) (OKs.mv [0, 5] [] (by rw [hρ]; rfl) ⟨by decide, by simp [sizeH], by simp⟩ (ih _ _ ⟨A.ib .add .i64 z 1, ds2, _, _, .inr rfl, rfl, ?_, ?_, hbn2, ((hmv2 _ _).trans hbc2), ?_, hdok2⟩ ?_))
        · simp (disch := omega) only [hA, OK, emaU, Int.reduceToNat, s_bat, s_rep1, s_setl, List.length_replicate]; omega
        · simp (disch := omega) only [hA, OK, emaU, Int.reduceToNat, s_bat, s_rep1, s_setl, List.length_replicate]; omega
        · rw [hz1', hstep, if_pos (by omega), hds2, hds1, List.append_assoc, List.append_assoc, List.singleton_append]
        · simp (disch := omega) only [hA, OK, emaU, Int.reduceToNat, s_bat, s_rep1, s_setl, List.length_replicate]; omega
set_option maxRecDepth 100000 in
set_option maxHeartbeats 8000000 in
theorem grow_top0 (l : List Fld) (path : List Nat) (pc : List EV) (inD : Bool) (prev : List Nd) (pn n0 : Nat) (lc : List EV) (hprev : prev = []) (hp64 : path.length ≤ 64) (hpc : pc.length = path.length) (hpc2 : clL pc = true) (hokl : okFs l) (hll : l.length ≤ 140737488351232) (hN : pn = path.length) (hn0 : n0 = l.length) (hlc : lc = cellsFs l) :
    Tri Tryz.prog gs 55 [.isl n0 none lc, .isl pn none pc, .sb inD, .lit (.slice none 0 0)] [] fun v h' => GrowT ((prev.map Nd.p ++ nodesFs path [] inD l).take 257) v h' := by
  have hlev : 65 ≤ path.length + 65 := by omega
  have hpl : prev.length ≤ 257 := by rw [hprev]; simp
  refine Tri.mv (R := GrowTR0 ((prev.map Nd.p ++ nodesFs path [] inD l).take 257)) (Tri_of F55_ok fun I0 ρ0 w0 Q hρ hQ => ?_) fun v h' hr => hr.done rfl
  obtain ⟨A, hA⟩ : ∃ A, A = stdA := ⟨_, rfl⟩
  with_reducible refine runS hA hd hQ 200 ?hk ?_
  case hk => exact trivial
  conv => arg 9; cbv
  try simp only [OK]
  repeat' first | (with_reducible refine OKK.loop ?_) | (with_reducible refine OKK.again ?_) | ((with_reducible refine ⟨fun hbr => ?_, fun hbr => ?_⟩) <;> (try simp (disch := omega) only [hA, OK, emaU, Int.reduceToNat, s_bat, s_rep1, s_setl, List.length_replicate, reduceCtorEq] at hbr) <;> (try (with_reducible exfalso; omega))) | ((with_reducible refine runK hA hd hQ 200 ?hk ?_); (case hk => exact trivial); (conv => arg 9; cbv); (try simp only [OK])) | ((with_reducible refine need_of ?hn ?_); (case hn => ((simp (disch := omega) only [hA, OK, emaU, Int.reduceToNat, s_bat, s_rep1, s_setl, List.length_replicate]) <;> omega)))
  refine OKs.mask (msk 63 [0, 1, 2, 3, 12, 13, 14]) ?_
  refine OKs.loopN (fun n st => ∃ (z : Int) (ds : List Nd) (bn : Nat) (bc : List EV), (st = ⟨mkT 63 [(0, .isl n0 none lc), (1, .isl pn none pc), (2, .sb inD), (3, .lit (.slice none 0 0)), (12, .isl n0 none lc), (13, .lit (.int .i64 (A.ofn n0))), (14, .lit (.int .i64 z))], []⟩ ∧ ds = [] ∨ st = ⟨mkT 63 [(0, .isl n0 none lc), (1, .isl pn none pc), (2, .sb inD), (3, .sl 10 0 0 bn none), (12, .isl n0 none lc), (13, .lit (.int .i64 (A.ofn n0))), (14, .lit (.int .i64 z))], [.blk bc]⟩) ∧ n = (n0 - z).toNat ∧ 0 ≤ z ∧ z ≤ n0 ∧ bn = ds.length ∧ bc = cellsDs ds ∧ ds.map Nd.p = (prev.map Nd.p ++ nodesFs path [] inD (l.take z.toNat)).take 257 ∧ ∀ d ∈ ds, okD d) (fun n st hs' ih => ?_) ⟨0, [], 0, [], .inl ⟨rfl, rfl⟩, rfl, by omega, by omega, rfl, rfl, by rw [show (0 : Int).toNat = 0 from rfl, List.take_zero, nodesFs, List.append_nil, hprev]; rfl, by simp⟩
  obtain ⟨z, ds, bn, bc, hst, hnn, hz1, hz2, hbn, hbc, hds, hdok⟩ := hs'
  have hmv : ∀ g z, mvL g z bc = bc := fun g z => mvL_cl _ _ _ (by rw [hbc]; exact clDs ds)
  have hbl : bc.length = 10 * bn := by rw [hbc, hbn, ds_length]
  have hdl : ds.length ≤ 257 := by rw [show ds.length = (ds.map Nd.p).length by simp, hds]; simp; omega
  have hsplit : (prev.map Nd.p ++ nodesFs path [] inD (l.take z.toNat)) ++ nodesFs path (l.take z.toNat) inD (l.drop z.toNat) = prev.map Nd.p ++ nodesFs path [] inD l := by
    conv => rhs; rw [← List.take_append_drop z.toNat l, nodesFs_app]
    simp
  have hend : ¬ z < n0 → nodesFs path (l.take z.toNat) inD (l.drop z.toNat) = [] := fun h => by rw [List.drop_eq_nil_of_le (by omega)]; rfl
  obtain ⟨f, hf⟩ : ∃ f, f = l.getD z.toNat fld0 := ⟨_, rfl⟩
  have hLf : z < n0 → List.take 7 (List.drop (A.idx 0 z 7) lc) = cellsF f := fun hz => by rw [hA, hlc, hf, ← fs_get l z.toNat (by omega), s_idx, Nat.zero_add]
  have hokf : z < n0 → okF f := fun hz => by rw [hf]; exact okFs_get hokl _ (by omega)
  obtain ⟨nm, nul, k, w, i, x, kids⟩ := f
  simp only [cellsF] at hLf
  obtain ⟨kn, hkn⟩ : ∃ n, n = kids.length := ⟨_, rfl⟩
  obtain ⟨kc, hkc⟩ : ∃ c, c = cellsFs kids := ⟨_, rfl⟩
  rw [← hkn, ← hkc] at hLf
  rcases hst with ⟨rfl, hds0⟩ | rfl
  ·
    have hdl0 : ds.length = 0 := by rw [hds0]; rfl
    with_reducible refine runS hA hd hQ 1 ?hk ?_
    case hk => exact trivial
    conv => arg 9; cbv
    try simp only [OK]
    repeat' first | (with_reducible refine OKK.loop ?_) | (with_reducible refine OKK.again ?_) | (with_reducible refine OKK.stopS (some 35) ?_) | (with_reducible refine OKK.stopO (some 35) ?_) | ((with_reducible refine ⟨fun hbr => ?_, fun hbr => ?_⟩) <;> (try simp (disch := omega) only [hA, OK, emaU, Int.reduceToNat, s_bat, s_rep1, s_setl, List.length_replicate, reduceCtorEq] at hbr) <;> (try (with_reducible exfalso; omega))) | ((with_reducible refine runK hA hd hQ 1 ?hk ?_); (case hk => exact trivial); (conv => arg 9; cbv); (try simp only [OK])) | ((with_reducible refine need_of ?hn ?_); (case hn => ((simp (disch := omega) only [hA, OK, emaU, Int.reduceToNat, s_bat, s_rep1, s_setl, List.length_replicate]) <;> omega))) | ((refine ⟨_, _, ?l1, (hLf (by omega)), rfl, ?_⟩); (case l1 => exact rfl))
    all_goals try ((with_reducible refine FinR.self ?_); refine FinR.intro rfl (GrowTR0.stop _ hsplit hbn hbc hds hdok (by first | exact .inr (by omega) | exact .inl (hend (by omega))) (Or.inl ⟨hbn.trans (by rw [hds0]; rfl), rfl, rfl⟩)))
    refine OKs.mask (msk 63 [0, 1, 2, 3, 9, 10, 11, 12, 13, 14]) ?_
    refine OKs.mv [0] [1] (by rw [hρ]; rfl) ⟨by decide, by simp [sizeH], fun id hid => by simp at hid; subst hid; exact ⟨_, rfl, by rw [hA]; exact clL_setl _ (clL_setl _ (clL_rep1 _ _ rfl) (clL_tak _ (clL_tak _ hpc2))) rfl⟩⟩ ?_
    simp only [mvSt, mvH, getH, mvO, hmv]
    obtain ⟨wn, hwn⟩ : ∃ n, n = A.tn (A.ib .add .i64 (A.ofn pn) 1) := ⟨_, rfl⟩
    obtain ⟨wc, hwc⟩ : ∃ c, c = A.setl (A.setl (A.rep [.lit (.int .i64 0)] (A.tn (A.ib .add .i64 (A.ofn pn) 1))) 0 (A.tak (A.mul (A.nmin pn (A.tn (A.ib .add .i64 (A.ofn pn) 1))) 1) (A.tak (A.mul pn 1) pc))) (A.idx 0 (A.ofn pn) 1) [.lit (.int .i64 z)] := ⟨_, rfl⟩
    refine OKs.up 11 (.isl wn none wc) (by rw [hwn, hwc]; exact Up.cap _ _ _) ?_
    have hwn1 : wn = pn + 1 := by rw [hwn, hA, s_tn, s_ofn, s_add _ _ (by omega) (by omega)]; omega
    have hwc1 : wc.length = pn + 1 := by
      rw [hwc]; simp (disch := omega) only [hA, OK, emaU, Int.reduceToNat, s_bat, s_rep1, s_setl, List.length_replicate , Int.toNat_natCast]; omega
    have hwc2 : clL wc = true := by rw [hwc, hA]; exact clL_setl _ (clL_setl _ (clL_rep1 _ _ rfl) (clL_tak _ (clL_tak _ hpc2))) rfl
    clear hwn hwc
    obtain ⟨nd, hnd⟩ : ∃ nd : Nd, nd = ⟨⟨path ++ [(l.take z.toNat).length], l.take z.toNat, .mk nm nul k w i x kids, inD⟩, none, wc, l.drop z.toNat⟩ := ⟨_, rfl⟩
    have htk : (l.take z.toNat).length = z.toNat := by rw [List.length_take]; omega
    have hpl1 : (path ++ [(l.take z.toNat).length]).length = pn + 1 := by simp [hN]
    have hkok := hokf (by assumption)
    have hds1 := grow_one (nd := nd) hds (by omega)
    have hcell : [.isl wn none wc, .lit (.string nm), .lit (.bool nul), .lit (.int .i64 k), .lit (.int .i64 w), .lit (.int .i64 i), .lit (.int .i64 x), .isl kn none kc, .isl (A.sub (A.tn z) (A.tn 0)) none (A.drp (A.mul (A.tn 0) 7) lc), .sb inD] = cellsD nd := by
      rw [hnd, cellsD]
      simp only [nm_mk, nul_mk, kind_mk, width_mk, id_mk, idx_mk, kids_mk, hA, s_tn, s_subN, s_drp, s_mulN, List.take_append_drop, List.length_append, List.length_cons, List.length_nil, htk, Int.reduceToNat, Nat.zero_mul, List.drop_zero, Nat.sub_zero, ← hlc, ← hkn, ← hkc, hwn1, hN]
    have hpush := ds_push1 hA hds0 nd hcell
    have hndok : okD nd := by rw [hnd]; exact ⟨by simp only [List.length_append, List.length_cons, List.length_nil]; omega, by simp only [htk]; omega, hokf (by assumption)⟩
    have hdok1 : ∀ d ∈ ds ++ [nd], okD d := fun d hd => (List.mem_append.1 hd).elim (hdok d) fun h => by rw [List.mem_singleton.1 h]; exact hndok
    have hndp : nd.p = ⟨path ++ [(l.take z.toNat).length], l.take z.toNat, .mk nm nul k w i x kids, inD⟩ := by rw [hnd]
    have hstep := nodesFs_step path inD l z.toNat (by omega)
    rw [← hf, nodesF, ← hndp] at hstep
    with_reducible refine runS hA hd hQ 200 ?hk ?_
    case hk => exact trivial
    conv => arg 9; cbv
    try simp only [OK]
    repeat' first | (with_reducible refine OKK.loop ?_) | (with_reducible refine OKK.again ?_) | ((with_reducible refine ⟨fun hbr => ?_, fun hbr => ?_⟩) <;> (try simp (disch := omega) only [hA, OK, emaU, Int.reduceToNat, s_bat, s_rep1, s_setl, List.length_replicate, reduceCtorEq] at hbr) <;> (try (with_reducible exfalso; omega))) | ((with_reducible refine runK hA hd hQ 200 ?hk ?_); (case hk => exact trivial); (conv => arg 9; cbv); (try simp only [OK])) | ((with_reducible refine need_of ?hn ?_); (case hn => ((simp (disch := omega) only [hA, OK, emaU, Int.reduceToNat, s_bat, s_rep1, s_setl, List.length_replicate]) <;> omega)))
    rotate_right
    · have hz1' : (A.ib .add .i64 z 1).toNat = z.toNat + 1 := by simp (disch := omega) only [hA, OK, emaU, Int.reduceToNat, s_bat, s_rep1, s_setl, List.length_replicate]; omega
      refine OKs.mask (msk 63 [0, 1, 2, 3, 12, 13, 14]) (OKs.mv [2] [] (by rw [hρ]; rfl) ⟨by decide, by simp [sizeH], by simp⟩ (ih _ _ ⟨A.ib .add .i64 z 1, ds ++ [nd], _, _, .inr rfl, rfl, ?_, ?_, (by rw [hds0]; rfl), ((congrArg _ hpush).trans (mvL_cl _ _ _ (clDs _))), ?_, hdok1⟩ ?_))
      · simp (disch := omega) only [hA, OK, emaU, Int.reduceToNat, s_bat, s_rep1, s_setl, List.length_replicate]; omega
      · simp (disch := omega) only [hA, OK, emaU, Int.reduceToNat, s_bat, s_rep1, s_setl, List.length_replicate]; omega
      · rw [hz1', hstep, if_neg (by omega), hds1, List.append_assoc]; exact (List.take_of_length_le (by rw [← List.append_assoc, ← hds1]; simp; omega)).symm
      · simp (disch := omega) only [hA, OK, emaU, Int.reduceToNat, s_bat, s_rep1, s_setl, List.length_replicate]; omega
    all_goals
      refine CallOK.of (goodF_of F55_ok) (Tri.mono (Tri.sub [2] [] ⟨by decide, by simp [sizeH], by simp⟩ (by simp) (Tri.args (grow_more 64 kids (path ++ [(l.take z.toNat).length]) _ (inD || decide (k = 19)) (ds ++ [nd]) _ _ _ _ _ (by rw [hpl1]; omega) (by rw [hpl1]; omega) (by rw [hpl1]; exact hwc1) hwc2 hkok.2.2.2.2.2.2 hkok.2.2.2.2.2.1 hdok1 (by simp; omega) (by rw [hpl1]; exact hwn1) (by rw [hds0]; rfl) ((congrArg _ hpush).trans (mvL_cl _ _ _ (clDs _))) hkn hkc) (UpL.cons (Up.refl _) (UpL.cons (Up.refl _) (UpL.cons (by first | (rw [show (inD || decide (k = 19)) = true by simp only [(by assumption : inD = true), Bool.true_or]]; exact Up.sb _) | (rw [show (inD || decide (k = 19)) = A.ic .eql k 19 by rw [hA, s_eql, (by assumption : inD = false), Bool.false_or]]; exact Up.refl _)) (UpL.cons (Up.refl _) UpL.nil))))) (.inl rfl)) fun v hh hx => ?_)
    all_goals
      obtain ⟨v0, h0, ⟨ds2, bn2, bc2, hbn2, hbc2, hds2, hdok2, hor⟩, hv2, hh2⟩ := hx
      have hmv2 : ∀ g z, mvL g z bc2 = bc2 := fun g z => mvL_cl _ _ _ (by rw [hbc2]; exact clDs ds2)
      rcases hor with ⟨e1, e2⟩ | ⟨e1, e2⟩ <;> subst e1 <;> subst e2 <;> subst hv2 <;> subst hh2
      · rw [sub2a _ _ _ hmv2]
        repeat' first | (with_reducible refine OKK.loop ?_) | (with_reducible refine OKK.again ?_) | ((with_reducible refine ⟨fun hbr => ?_, fun hbr => ?_⟩) <;> (try simp (disch := omega) only [hA, OK, emaU, Int.reduceToNat, s_bat, s_rep1, s_setl, List.length_replicate, reduceCtorEq] at hbr) <;> (try (with_reducible exfalso; omega))) | ((with_reducible refine runK hA hd hQ 200 ?hk ?_); (case hk => exact trivial); (conv => arg 9; cbv); (try simp only [OK])) | ((with_reducible refine need_of ?hn ?_); (case hn => ((simp (disch := omega) only [hA, OK, emaU, Int.reduceToNat, s_bat, s_rep1, s_setl, List.length_replicate]) <;> omega)))
        have hz1' : (A.ib .add .i64 z 1).toNat = z.toNat + 1 := by simp (disch := omega) only [hA, OK, emaU, Int.reduceToNat, s_bat, s_rep1, s_setl, List.length_replicate]; omega
        refine OKs.mask (msk 63 [0, 1, 2, 3, 12, 13, 14]) (OKs.mv [2] [] (by rw [hρ]; rfl) ⟨by decide, by simp [sizeH], by simp⟩ (ih _ _ ⟨A.ib .add .i64 z 1, ds2, _, _, .inr rfl, rfl, ?_, ?_, hbn2, ((hmv2 _ _).trans hbc2), ?_, hdok2⟩ ?_))
        · simp (disch := omega) only [hA, OK, emaU, Int.reduceToNat, s_bat, s_rep1, s_setl, List.length_replicate]; omega
        · simp (disch := omega) only [hA, OK, emaU, Int.reduceToNat, s_bat, s_rep1, s_setl, List.length_replicate]; omega
        · rw [hz1', hstep, if_pos (by omega), hds2, hds1, List.append_assoc, List.append_assoc, List.singleton_append]
        · simp (disch := omega) only [hA, OK, emaU, Int.reduceToNat, s_bat, s_rep1, s_setl, List.length_replicate]; omega
      · rw [sub2b _ _ _ hmv2]
        repeat' first | (with_reducible refine OKK.loop ?_) | (with_reducible refine OKK.again ?_) | ((with_reducible refine ⟨fun hbr => ?_, fun hbr => ?_⟩) <;> (try simp (disch := omega) only [hA, OK, emaU, Int.reduceToNat, s_bat, s_rep1, s_setl, List.length_replicate, reduceCtorEq] at hbr) <;> (try (with_reducible exfalso; omega))) | ((with_reducible refine runK hA hd hQ 200 ?hk ?_); (case hk => exact trivial); (conv => arg 9; cbv); (try simp only [OK])) | ((with_reducible refine need_of ?hn ?_); (case hn => ((simp (disch := omega) only [hA, OK, emaU, Int.reduceToNat, s_bat, s_rep1, s_setl, List.length_replicate]) <;> omega)))
        have hz1' : (A.ib .add .i64 z 1).toNat = z.toNat + 1 := by simp (disch := omega) only [hA, OK, emaU, Int.reduceToNat, s_bat, s_rep1, s_setl, List.length_replicate]; omega
        refine OKs.mask (msk 63 [0, 1, 2, 3, 12, 13, 14]) (OKs.mv [3] [] (by rw [hρ]; rfl) ⟨by decide, by simp [sizeH], by simp⟩ (ih _ _ ⟨A.ib .add .i64 z 1, ds2, _, _, .inr rfl, rfl, ?_, ?_, hbn2, ((hmv2 _ _).trans hbc2), ?_, hdok2⟩ ?_))
        · simp (disch := omega) only [hA, OK, emaU, Int.reduceToNat, s_bat, s_rep1, s_setl, List.length_replicate]; omega
        · simp (disch := omega) only [hA, OK, emaU, Int.reduceToNat, s_bat, s_rep1, s_setl, List.length_replicate]; omega
        · rw [hz1', hstep, if_pos (by omega), hds2, hds1, List.append_assoc, List.append_assoc, List.singleton_append]
        · simp (disch := omega) only [hA, OK, emaU, Int.reduceToNat, s_bat, s_rep1, s_setl, List.length_replicate]; omega
  ·
    have hdl0 : ds.length ≤ 257 := hdl
    with_reducible refine runS hA hd hQ 1 ?hk ?_
    case hk => exact trivial
    conv => arg 9; cbv
    try simp only [OK]
    repeat' first | (with_reducible refine OKK.loop ?_) | (with_reducible refine OKK.again ?_) | (with_reducible refine OKK.stopS (some 35) ?_) | (with_reducible refine OKK.stopO (some 35) ?_) | ((with_reducible refine ⟨fun hbr => ?_, fun hbr => ?_⟩) <;> (try simp (disch := omega) only [hA, OK, emaU, Int.reduceToNat, s_bat, s_rep1, s_setl, List.length_replicate, reduceCtorEq] at hbr) <;> (try (with_reducible exfalso; omega))) | ((with_reducible refine runK hA hd hQ 1 ?hk ?_); (case hk => exact trivial); (conv => arg 9; cbv); (try simp only [OK])) | ((with_reducible refine need_of ?hn ?_); (case hn => ((simp (disch := omega) only [hA, OK, emaU, Int.reduceToNat, s_bat, s_rep1, s_setl, List.length_replicate]) <;> omega))) | ((refine ⟨_, _, ?l1, (hLf (by omega)), rfl, ?_⟩); (case l1 => exact rfl))
    all_goals try ((with_reducible refine FinR.self ?_); refine FinR.intro rfl (GrowTR0.stop _ hsplit hbn hbc hds hdok (by first | exact .inr (by omega) | exact .inl (hend (by omega))) (Or.inr ⟨rfl, _, rfl⟩)))
    refine OKs.mask (msk 63 [0, 1, 2, 3, 9, 10, 11, 12, 13, 14]) ?_
    refine OKs.mv [0, 1] [2] (by rw [hρ]; rfl) ⟨by decide, by simp [sizeH], fun id hid => by simp at hid; subst hid; exact ⟨_, rfl, by rw [hA]; exact clL_setl _ (clL_setl _ (clL_rep1 _ _ rfl) (clL_tak _ (clL_tak _ hpc2))) rfl⟩⟩ ?_
    simp only [mvSt, mvH, getH, mvO, hmv]
    obtain ⟨wn, hwn⟩ : ∃ n, n = A.tn (A.ib .add .i64 (A.ofn pn) 1) := ⟨_, rfl⟩
    obtain ⟨wc, hwc⟩ : ∃ c, c = A.setl (A.setl (A.rep [.lit (.int .i64 0)] (A.tn (A.ib .add .i64 (A.ofn pn) 1))) 0 (A.tak (A.mul (A.nmin pn (A.tn (A.ib .add .i64 (A.ofn pn) 1))) 1) (A.tak (A.mul pn 1) pc))) (A.idx 0 (A.ofn pn) 1) [.lit (.int .i64 z)] := ⟨_, rfl⟩
    refine OKs.up 11 (.isl wn none wc) (by rw [hwn, hwc]; exact Up.cap _ _ _) ?_
    have hwn1 : wn = pn + 1 := by rw [hwn, hA, s_tn, s_ofn, s_add _ _ (by omega) (by omega)]; omega
    have hwc1 : wc.length = pn + 1 := by
      rw [hwc]; simp (disch := omega) only [hA, OK, emaU, Int.reduceToNat, s_bat, s_rep1, s_setl, List.length_replicate , Int.toNat_natCast]; omega
    have hwc2 : clL wc = true := by rw [hwc, hA]; exact clL_setl _ (clL_setl _ (clL_rep1 _ _ rfl) (clL_tak _ (clL_tak _ hpc2))) rfl
    clear hwn hwc
    obtain ⟨nd, hnd⟩ : ∃ nd : Nd, nd = ⟨⟨path ++ [(l.take z.toNat).length], l.take z.toNat, .mk nm nul k w i x kids, inD⟩, none, wc, l.drop z.toNat⟩ := ⟨_, rfl⟩
    have htk : (l.take z.toNat).length = z.toNat := by rw [List.length_take]; omega
    have hpl1 : (path ++ [(l.take z.toNat).length]).length = pn + 1 := by simp [hN]
    have hkok := hokf (by assumption)
    have hds1 := grow_one (nd := nd) hds (by omega)
    have hcell : [.isl wn none wc, .lit (.string nm), .lit (.bool nul), .lit (.int .i64 k), .lit (.int .i64 w), .lit (.int .i64 i), .lit (.int .i64 x), .isl kn none kc, .isl (A.sub (A.tn z) (A.tn 0)) none (A.drp (A.mul (A.tn 0) 7) lc), .sb inD] = cellsD nd := by
      rw [hnd, cellsD]
      simp only [nm_mk, nul_mk, kind_mk, width_mk, id_mk, idx_mk, kids_mk, hA, s_tn, s_subN, s_drp, s_mulN, List.take_append_drop, List.length_append, List.length_cons, List.length_nil, htk, Int.reduceToNat, Nat.zero_mul, List.drop_zero, Nat.sub_zero, ← hlc, ← hkn, ← hkc, hwn1, hN]
    have hpush := ds_push hA hbn hbc nd hcell
    have hndok : okD nd := by rw [hnd]; exact ⟨by simp only [List.length_append, List.length_cons, List.length_nil]; omega, by simp only [htk]; omega, hokf (by assumption)⟩
    have hdok1 : ∀ d ∈ ds ++ [nd], okD d := fun d hd => (List.mem_append.1 hd).elim (hdok d) fun h => by rw [List.mem_singleton.1 h]; exact hndok
    have hndp : nd.p = ⟨path ++ [(l.take z.toNat).length], l.take z.toNat, .mk nm nul k w i x kids, inD⟩ := by rw [hnd]
    have hstep := nodesFs_step path inD l z.toNat (by omega)
    rw [← hf, nodesF, ← hndp] at hstep
    with_reducible refine runS hA hd hQ 200 ?hk ?_
    case hk => exact trivial
    conv => arg 9; cbv
    try simp only [OK]
    repeat' first | (with_reducible refine OKK.loop ?_) | (with_reducible refine OKK.again ?_) | ((with_reducible refine ⟨fun hbr => ?_, fun hbr => ?_⟩) <;> (try simp (disch := omega) only [hA, OK, emaU, Int.reduceToNat, s_bat, s_rep1, s_setl, List.length_replicate, reduceCtorEq] at hbr) <;> (try (with_reducible exfalso; omega))) | ((with_reducible refine runK hA hd hQ 200 ?hk ?_); (case hk => exact trivial); (conv => arg 9; cbv); (try simp only [OK])) | ((with_reducible refine need_of ?hn ?_); (case hn => ((simp (disch := omega) only [hA, OK, emaU, Int.reduceToNat, s_bat, s_rep1, s_setl, List.length_replicate]) <;> omega)))
    rotate_right
    · have hz1' : (A.ib .add .i64 z 1).toNat = z.toNat + 1 := by simp (disch := omega) only [hA, OK, emaU, Int.reduceToNat, s_bat, s_rep1, s_setl, List.length_replicate]; omega
      refine OKs.mask (msk 63 [0, 1, 2, 3, 12, 13, 14]) (OKs.mv [3] [] (by rw [hρ]; rfl) ⟨by decide, by simp [sizeH], by simp⟩ (ih _ _ ⟨A.ib .add .i64 z 1, ds ++ [nd], _, _, .inr rfl, rfl, ?_, ?_, (by rw [hA]; simp [s_addN, hbn]), ((congrArg _ hpush).trans (mvL_cl _ _ _ (clDs _))), ?_, hdok1⟩ ?_))
      · simp (disch := omega) only [hA, OK, emaU, Int.reduceToNat, s_bat, s_rep1, s_setl, List.length_replicate]; omega
      · simp (disch := omega) only [hA, OK, emaU, Int.reduceToNat, s_bat, s_rep1, s_setl, List.length_replicate]; omega
      · rw [hz1', hstep, if_neg (by omega), hds1, List.append_assoc]; exact (List.take_of_length_le (by rw [← List.append_assoc, ← hds1]; simp; omega)).symm
      · simp (disch := omega) only [hA, OK, emaU, Int.reduceToNat, s_bat, s_rep1, s_setl, List.length_replicate]; omega
    all_goals
      refine CallOK.of (goodF_of F55_ok) (Tri.mono (Tri.sub [3] [] ⟨by decide, by simp [sizeH], by simp⟩ (by simp) (Tri.args (grow_more 64 kids (path ++ [(l.take z.toNat).length]) _ (inD || decide (k = 19)) (ds ++ [nd]) _ _ _ _ _ (by rw [hpl1]; omega) (by rw [hpl1]; omega) (by rw [hpl1]; exact hwc1) hwc2 hkok.2.2.2.2.2.2 hkok.2.2.2.2.2.1 hdok1 (by simp; omega) (by rw [hpl1]; exact hwn1) (by rw [hA]; simp [s_addN, hbn]) ((congrArg _ hpush).trans (mvL_cl _ _ _ (clDs _))) hkn hkc) (UpL.cons (Up.refl _) (UpL.cons (Up.refl _) (UpL.cons (by first | (rw [show (inD || decide (k = 19)) = true by simp only [(by assumption : inD = true), Bool.true_or]]; exact Up.sb _) | (rw [show (inD || decide (k = 19)) = A.ic .eql k 19 by rw [hA, s_eql, (by assumption : inD = false), Bool.false_or]]; exact Up.refl _)) (UpL.cons (Up.refl _) UpL.nil))))) (.inl rfl)) fun v hh hx => ?_)
    all_goals
      obtain ⟨v0, h0, ⟨ds2, bn2, bc2, hbn2, hbc2, hds2, hdok2, hor⟩, hv2, hh2⟩ := hx
      have hmv2 : ∀ g z, mvL g z bc2 = bc2 := fun g z => mvL_cl _ _ _ (by rw [hbc2]; exact clDs ds2)
      rcases hor with ⟨e1, e2⟩ | ⟨e1, e2⟩ <;> subst e1 <;> subst e2 <;> subst hv2 <;> subst hh2
      · rw [sub3a _ _ _ _ hmv2]
        repeat' first | (with_reducible refine OKK.loop ?_) | (with_reducible refine OKK.again ?_) | ((with_reducible refine ⟨fun hbr => ?_, fun hbr => ?_⟩) <;> (try simp (disch := omega) only [hA, OK, emaU, Int.reduceToNat, s_bat, s_rep1, s_setl, List.length_replicate, reduceCtorEq] at hbr) <;> (try (with_reducible exfalso; omega))) | ((with_reducible refine runK hA hd hQ 200 ?hk ?_); (case hk => exact trivial); (conv => arg 9; cbv); (try simp only [OK])) | ((with_reducible refine need_of ?hn ?_); (case hn => ((simp (disch := omega) only [hA, OK, emaU, Int.reduceToNat, s_bat, s_rep1, s_setl, List.length_replicate]) <;> omega)))
        have hz1' : (A.ib .add .i64 z 1).toNat = z.toNat + 1 := by simp (disch := omega) only [hA, OK, emaU, Int.reduceToNat, s_bat, s_rep1, s_setl, List.length_replicate]; omega
        refine OKs.mask (msk 63 [0, 1, 2, 3, 12, 13, 14]) (OKs.mv [3] [] (by rw [hρ]; rfl) ⟨by decide, by simp [sizeH], by simp⟩ (ih _ _ ⟨A.ib .add .i64 z 1, ds2, _, _, .inr rfl, rfl, ?_, ?_, hbn2, ((hmv2 _ _).trans hbc2), ?_, hdok2⟩ ?_))
        · simp (disch := omega) only [hA, OK, emaU, Int.reduceToNat, s_bat, s_rep1, s_setl, List.length_replicate]; omega
        · simp (disch := omega) only [hA, OK, emaU, Int.reduceToNat, s_bat, s_rep1, s_setl, List.length_replicate]; omega
        · rw [hz1', hstep, if_pos (by omega), hds2, hds1, List.append_assoc, List.append_assoc, List.singleton_append]
        · simp (disch := omega) only [hA, OK, emaU, Int.reduceToNat, s_bat, s_rep1, s_setl, List.length_replicate]; omega
      · rw [sub3b _ _ _ _ hmv2]
        repeat' first | (with_reducible refine OKK.loop ?_) | (with_reducible refine OKK.again ?_) | ((with_reducible refine ⟨fun hbr => ?_, fun hbr => ?_⟩) <;> (try simp (disch := omega) only [hA, OK, emaU, Int.reduceToNat, s_bat, s_rep1, s_setl, List.length_replicate, reduceCtorEq] at hbr) <;> (try (with_reducible exfalso; omega))) | ((with_reducible refine runK hA hd hQ 200 ?hk ?_); (case hk => exact trivial); (conv => arg 9; cbv); (try simp only [OK])) | ((with_reducible refine need_of ?hn ?_); (case hn => ((simp (disch := omega) only [hA, OK, emaU, Int.reduceToNat, s_bat, s_rep1, s_setl, List.length_replicate]) <;> omega)))
        have hz1' : (A.ib .add .i64 z 1).toNat = z.toNat + 1 := by simp (disch := omega) only [hA, OK, emaU, Int.reduceToNat, s_bat, s_rep1, s_setl, List.length_replicate]; omega
        refine OKs.mask (msk 63 [0, 1, 2, 3, 12, 13, 14]) (OKs.mv [4] [] (by rw [hρ]; rfl) ⟨by decide, by simp [sizeH], by simp⟩ (ih _ _ ⟨A.ib .add .i64 z 1, ds2, _, _, .inr rfl, rfl, ?_, ?_, hbn2, ((hmv2 _ _).trans hbc2), ?_, hdok2⟩ ?_))
        · simp (disch := omega) only [hA, OK, emaU, Int.reduceToNat, s_bat, s_rep1, s_setl, List.length_replicate]; omega
        · simp (disch := omega) only [hA, OK, emaU, Int.reduceToNat, s_bat, s_rep1, s_setl, List.length_replicate]; omega
        · rw [hz1', hstep, if_pos (by omega), hds2, hds1, List.append_assoc, List.append_assoc, List.singleton_append]
        · simp (disch := omega) only [hA, OK, emaU, Int.reduceToNat, s_bat, s_rep1, s_setl, List.length_replicate]; omega
theorem grow_top (l : List Fld) (n0 : Nat) (lc : List EV) (hokl : okFs l) (hll : l.length ≤ 140737488351232) (hn0 : n0 = l.length) (hlc : lc = cellsFs l) :
    Tri Tryz.prog gs 55 [.isl n0 none lc, .lit (.slice none 0 0), .lit (.bool false), .lit (.slice none 0 0)] [] fun v h' => GrowT ((nodesFs [] [] false l).take 257) v h' :=
  Tri.args (grow_top0 l [] [] false [] 0 n0 lc rfl (by simp) rfl rfl hokl hll rfl hn0 hlc) (UpL.cons (Up.refl _) (UpL.cons (Up.nil _) (UpL.cons (Up.sb _) (UpL.cons (Up.refl _) UpL.nil))))
end Go.Proofs.YtecephhhjhpcjaaGreatDoor.Stats
end
section
set_option linter.unusedVariables false
set_option linter.unusedSimpArgs false
-- emaX: s_bat
namespace Go.Proofs.YtecephhhjhpcjaaGreatDoor.Stats
open Go Go.Proofs.YtecephhhjhpcjaaGreatDoor Go.Proofs.YtecephhhjhpcjaaGreatDoor.Em
abbrev Nt := ByteArray × ByteArray
def cellsNt (x : Nt) : List EV := [.lit (.string x.1), .lit (.string x.2)]
def cellsNts : List Nt → List EV
  | [] => []
  | x :: l => cellsNt x ++ cellsNts l
def nt0 : Nt := (⟨#[]⟩, ⟨#[]⟩)
theorem nt_get : ∀ (l : List Nt) (i : Nat), i < l.length → ((cellsNts l).drop (i * 2)).take 2 = cellsNt (l.getD i nt0)
  | [], i, h => by simp at h
  | f :: l, 0, _ => rfl
  | f :: l, i + 1, h => by
    have ih := nt_get l i (by simpa using h)
    rw [cellsNts, List.drop_append, List.drop_eq_nil_of_le (by show 2 ≤ _; omega), show (cellsNt f).length = 2 from rfl, List.nil_append, show (i + 1) * 2 - 2 = i * 2 by omega, ih]
    rfl
def ntP (x : Nt) : Prop := x.1.size ≤ 256 ∧ x.2.size ≤ 256
def mayS (fs : List Fld) (ns : List Nt) : Prop := fs.length ≤ 32 ∧ ns.length ≤ 16 ∧ (∀ x ∈ ns, ntP x) ∧ allN [] (nodesFs [] [] false fs)
theorem allN_iff : ∀ (l prev : List Pl), allN prev l ↔ ∀ k, (h : k < l.length) → prev.length + k < 256 ∧ okN (prev ++ l.take k) l[k]
  | [], prev => by simp [allN]
  | p :: l, prev => by
    rw [allN, allN_iff l (prev ++ [p])]
    constructor
    · rintro ⟨h1, h2, h3⟩ k hk
      cases k with
      | zero => simpa using ⟨h1, h2⟩
      | succ k =>
        obtain ⟨a, b⟩ := h3 k (by simpa using hk)
        simp at a b ⊢
        exact ⟨by omega, b⟩
    · intro h
      refine ⟨by simpa using (h 0 (by simp)).1, by have := (h 0 (by simp)).2; simp only [List.take_zero, List.append_nil] at this; exact this, fun k hk => ?_⟩
      obtain ⟨a, b⟩ := h (k + 1) (by simpa using hk)
      simp at a b ⊢
      exact ⟨by omega, b⟩
theorem allN_take {ds : List Nd} {l : List Pl} (h : ds.map Nd.p = l.take 257) : allN [] l ↔ ∀ k, k < ds.length → k < 256 ∧ okN ((ds.take k).map Nd.p) (ds.getD k nd0).p := by
  have hl : ds.length = min 257 l.length := by rw [show ds.length = (ds.map Nd.p).length by simp, h, List.length_take]
  have key : ∀ k, (hk : k < ds.length) → (ds.take k).map Nd.p = (l.take 257).take k ∧ (ds.getD k nd0).p = l[k]'(by omega) := fun k hk => by
    refine ⟨by rw [← h, List.map_take], ?_⟩
    have h1 : (ds.map Nd.p)[k]? = l[k]? := by rw [h, List.getElem?_take]; simp; omega
    rw [List.getElem?_map, List.getElem?_eq_getElem hk, List.getElem?_eq_getElem (by omega)] at h1
    rw [List.getD_eq_getElem?_getD, List.getElem?_eq_getElem hk]
    simpa using h1
  rw [allN_iff]
  constructor
  · intro ha k hk
    obtain ⟨k1, k2⟩ := key k hk
    obtain ⟨a, b⟩ := ha k (by omega)
    simp only [List.nil_append, List.length_nil, Nat.zero_add] at a b
    rw [k1, k2, List.take_take, Nat.min_eq_left (by omega)]
    exact ⟨a, b⟩
  · intro ha k hk
    have hlt : l.length ≤ 256 := Classical.byContradiction fun hn => by
      have := (ha 256 (by omega)).1
      omega
    obtain ⟨k1, k2⟩ := key k (by omega)
    obtain ⟨a, b⟩ := ha k (by omega)
    rw [k1, k2, List.take_take, Nat.min_eq_left (by omega)] at b
    simp only [List.nil_append, List.length_nil, Nat.zero_add]
    exact ⟨a, b⟩
theorem all_ofG {α : Type} {l : List α} {d : α} {q : α → Prop} {n : Nat} (hn : l.length ≤ n) (h : ∀ j, j < n → q (l.getD j d)) (g : α) (hg : g ∈ l) : q g := by
  obtain ⟨j, hj, rfl⟩ := List.getElem_of_mem hg
  have := h j (by omega)
  rwa [List.getD_eq_getElem?_getD, List.getElem?_eq_getElem hj] at this
theorem sub0a (a b : EO) {x : List EV} (h : ∀ g z, mvL g z x = x) : subH [] [a, b] [.blk x] = [a, b, .blk x] := by
  show [a, b, EO.blk (mvL _ _ x)] = _
  rw [h]
def nthC : EC → Nat → EC
  | c, 0 => c
  | .seq _ b, n + 1 => nthC b n
  | _, _ + 1 => .skip
def fstC : EC → EC
  | .seq a _ => a
  | _ => .skip
def IsF (p : Prop) (v : EV) : Prop := ∃ (e at' : Int) (pn : Nat) (pc : List EV), v = .agg [.lit (.int .i64 e), .isl pn none pc, .lit (.int .i64 at')] ∧ (e = 0 ↔ p)
theorem IsF.cl {p : Prop} {v : EV} (h : IsF p v) : clE v = true := by obtain ⟨e, a, pn, pc, rfl, _⟩ := h; rfl
theorem Up.agg3 {a b c a' b' c' : EV} (h1 : Up a a') (h2 : Up b b') (h3 : Up c c') : Up (.agg [a, b, c]) (.agg [a', b', c']) := fun w I ρ cv hr => by
  cases hr with
  | agg _ c vs hl hc =>
    refine .agg _ _ _ (by simpa using hl) fun j e v he hv => ?_
    match j, he with
    | 0, he => simp at he; subst he; exact h1 _ _ _ _ (hc 0 _ v rfl hv)
    | 1, he => simp at he; subst he; exact h2 _ _ _ _ (hc 1 _ v rfl hv)
    | 2, he => simp at he; subst he; exact h3 _ _ _ _ (hc 2 _ v rfl hv)
theorem FinR.f {rs : List ER} {p : Prop} {s : St} {e at' : Int} {pe : EV} {pn : Nat} {pc : List EV} (hv : retE rs s.t s.h = some (.agg [.lit (.int .i64 e), pe, .lit (.int .i64 at')])) (hu : Up pe (.isl pn none pc)) (hp : e = 0 ↔ p) :
    FinR rs (fun v _ => ∃ v', IsF p v' ∧ Up v v') s := ⟨_, hv, _, ⟨e, at', pn, pc, rfl, hp⟩, Up.agg3 (Up.refl _) hu (Up.refl _)⟩
theorem Tri.faultC {P : Program} {G : List (List EV)} {f : FuncId} {args : List EV} {p : Prop} (ha : clL args = true) (t : Tri P G f args [] fun v _ => ∃ v', IsF p v' ∧ Up v v') (h : EH) : Tri P G f args h fun v h' => IsF p v ∧ h' = h :=
  Tri.litC (fun v hv => hv.cl) ha (Tri.up t fun v h' ⟨v', h1, h2⟩ => ⟨v', h1, h2⟩) h
set_option maxRecDepth 100000 in
set_option maxHeartbeats 8000000 in
theorem checkR_ok (fs : List Fld) (ns : List Nt) (hfs : fs.length ≤ 140737488351232) (hns : ns.length ≤ 140737488351232) (hok : okFs fs) (hnt : ∀ x ∈ ns, x.1.size ≤ 140737488351232 ∧ x.2.size ≤ 140737488351232) (h : EH) :
    Tri Tryz.prog gs 28 [.agg [.isl fs.length none (cellsFs fs), .isl ns.length none (cellsNts ns)]] h fun v h' => IsF (mayS fs ns) v ∧ h' = h := by
  refine Tri.faultC rfl (Tri_of F28_ok fun I0 ρ0 w0 Q hρ hQ => ?_) h
  obtain ⟨A, hA⟩ : ∃ A, A = stdA := ⟨_, rfl⟩
  have hgrow := grow_top fs fs.length (cellsFs fs) hok hfs rfl rfl
  have hng := nt_get ns
  obtain ⟨fn, hfn⟩ : ∃ n, n = fs.length := ⟨_, rfl⟩
  obtain ⟨fc, hfc⟩ : ∃ n, n = cellsFs fs := ⟨_, rfl⟩
  obtain ⟨nn, hnn⟩ : ∃ n, n = ns.length := ⟨_, rfl⟩
  obtain ⟨nc, hnc⟩ : ∃ n, n = cellsNts ns := ⟨_, rfl⟩
  rw [← hfn, ← hfc] at hgrow
  rw [← hfn, ← hfc, ← hnn, ← hnc]
  with_reducible refine runS hA hd hQ 200 ?hk ?_
  case hk => exact trivial
  conv => arg 9; cbv
  try simp only [OK]
  repeat' first | (with_reducible refine OKK.loop ?_) | (with_reducible refine OKK.again ?_) | ((with_reducible refine ⟨fun hbr => ?_, fun hbr => ?_⟩) <;> (try simp (disch := omega) only [hA, OK, emaU, Int.reduceToNat, s_bat, reduceCtorEq] at hbr) <;> (try (with_reducible exfalso; omega))) | ((with_reducible refine runK hA hd hQ 200 ?hk ?_); (case hk => exact trivial); (conv => arg 9; cbv); (try simp only [OK])) | ((with_reducible refine need_of ?hn ?_); (case hn => ((simp (disch := omega) only [hA, OK, emaU, Int.reduceToNat, s_bat]) <;> omega)))
  all_goals try ((with_reducible refine FinR.self ?_); refine FinR.f rfl (Up.nil []) ⟨fun h => absurd h (by decide), fun h => by have h1 := h.1; have h2 := h.2.1; simp (disch := omega) only [hA, OK, emaU, Int.reduceToNat, s_bat] at *; omega⟩)
  refine OKs.mask (msk 61 [1, 2, 19, 20, 21]) ?_
  refine OKs.loopN (fun n st => ∃ z : Int, st = ⟨mkT 61 [(1, .ptr 0 0), (2, .ptr 1 0), (19, .isl nn none nc), (20, .lit (.int .i64 (A.ofn nn))), (21, .lit (.int .i64 z))], [.blk [.isl fn none fc, .isl nn none nc], .blk [.lit (.int .i64 0), .lit (.slice none 0 0), .lit (.int .i64 0)]]⟩ ∧ n = (nn - z).toNat ∧ 0 ≤ z ∧ z ≤ nn ∧ ∀ j, j < z.toNat → ntP (ns.getD j nt0)) (fun n st hs' ih => ?_) ⟨0, rfl, rfl, by omega, by omega, fun j hj => absurd hj (by simp)⟩
  obtain ⟨z, rfl, hn, hz1, hz2, hz3⟩ := hs'
  obtain ⟨x, hx⟩ : ∃ x, x = ns.getD z.toNat nt0 := ⟨_, rfl⟩
  have hL : z < nn → List.take 2 (List.drop (A.idx 0 z 2) nc) = cellsNt x := fun hz => by rw [hA, s_idx, Nat.zero_add, hnc, hng z.toNat (by omega), ← hx]
  have hxm : z < nn → x ∈ ns := fun hz => by rw [hx, List.getD_eq_getElem?_getD, List.getElem?_eq_getElem (by omega)]; exact List.getElem_mem _
  have hxs : z < nn → x.1.size ≤ 140737488351232 ∧ x.2.size ≤ 140737488351232 := fun hz => hnt x (hxm hz)
  have hst := allP_step (p := fun j => ntP (ns.getD j nt0)) hz1 hz3
  simp only [← hx] at hst
  obtain ⟨key, text⟩ := x
  simp only [cellsNt] at hL hxs
  with_reducible refine runS hA hd hQ 1 ?hk ?_
  case hk => exact trivial
  conv => arg 9; cbv
  try simp only [OK]
  repeat' first | (with_reducible refine OKK.loop ?_) | (with_reducible refine OKK.again ?_) | (with_reducible refine OKK.stopS (some 42) ?_) | (with_reducible refine OKK.stopO (some 42) ?_) | ((with_reducible refine ⟨fun hbr => ?_, fun hbr => ?_⟩) <;> (try simp (disch := omega) only [hA, OK, emaU, Int.reduceToNat, s_bat, reduceCtorEq] at hbr) <;> (try (with_reducible exfalso; omega))) | ((with_reducible refine runK hA hd hQ 1 ?hk ?_); (case hk => exact trivial); (conv => arg 9; cbv); (try simp only [OK])) | ((with_reducible refine need_of ?hn ?_); (case hn => ((simp (disch := omega) only [hA, OK, emaU, Int.reduceToNat, s_bat]) <;> omega))) | ((refine ⟨_, _, ?l1, (hL (by omega)), rfl, ?_⟩); (case l1 => exact rfl))
  all_goals try ((with_reducible refine FinR.self ?_); refine FinR.f rfl (Up.nil []) ⟨fun h => absurd h (by decide), fun h => by have h1 := h.2.2.1 _ (hxm (by omega)); have h2 := h1.1; have h3 := h1.2; simp only at h2 h3; omega⟩)
  · refine OKs.mask (msk 61 [1, 2, 19, 20, 21]) (OKs.mv [0, 1] [] (by rw [hρ]; rfl) ⟨by decide, by simp [sizeH], by simp⟩ (ih _ _ ⟨_, rfl, rfl, ?_, ?_, ?_⟩ ?_))
    all_goals simp (disch := omega) only [hA, OK, emaU, Int.reduceToNat, s_bat]
    all_goals first
      | omega
      | exact hst ⟨by simp only; omega, by simp only; omega⟩
  have hnall : ∀ x ∈ ns, ntP x := all_ofG (by omega) hz3
  clear hst hxs hxm hx hL
  refine CallOK.of (goodF_of F55_ok) (Tri.mono (Tri.sub [] [] ⟨by simp, by simp, by simp⟩ (by simp) hgrow (.inl rfl)) fun v hh hx => ?_)
  obtain ⟨v0, h0, ⟨ds, bn, bc, hbn, hbc, hds, hdok, hor⟩, hv2, hh2⟩ := hx
  have hdl : ds.length ≤ 257 := by rw [show ds.length = (ds.map Nd.p).length by simp, hds]; simp; omega
  have hmv2 : ∀ g z, mvL g z bc = bc := fun g z => mvL_cl _ _ _ (by rw [hbc]; exact clDs ds)
  have hmay : mayS fs ns ↔ ∀ k, k < ds.length → k < 256 ∧ okN ((ds.take k).map Nd.p) (ds.getD k nd0).p := by
    rw [← allN_take hds]; exact ⟨fun h => h.2.2.2, fun h => ⟨by omega, by omega, hnall, h⟩⟩
  have hwr := fun (y : Int) (hy : 0 ≤ y) (hy2 : y < bn) (h : EH) => wrongR_ok ds y.toNat (by omega) hdl hdok h
  have hdg := fun (y : Int) (hy : 0 ≤ y) (hy2 : y < bn) => ds_get ds y.toNat (by omega)
  rw [← hbn, ← hbc] at hwr
  rw [← hbc] at hdg
  have rest : OKs Tryz.prog gs none I0 ρ0 w0 Q [.c (fstC (nthC F28.body 5)), .c (nthC F28.body 6)] ⟨mkT 61 [(2, .ptr 1 0), (5, .isl bn none bc)], [.blk [.isl fn none fc, .isl nn none nc], .blk [.lit (.int .i64 0), .lit (.slice none 0 0), .lit (.int .i64 0)]]⟩ := by
    with_reducible refine runS hA hd hQ 200 ?hk ?_
    case hk => exact trivial
    conv => arg 9; cbv
    try simp only [OK]
    repeat' first | (with_reducible refine OKK.loop ?_) | (with_reducible refine OKK.again ?_) | ((with_reducible refine ⟨fun hbr => ?_, fun hbr => ?_⟩) <;> (try simp (disch := omega) only [hA, OK, emaU, Int.reduceToNat, s_bat, reduceCtorEq] at hbr) <;> (try (with_reducible exfalso; omega))) | ((with_reducible refine runK hA hd hQ 200 ?hk ?_); (case hk => exact trivial); (conv => arg 9; cbv); (try simp only [OK])) | ((with_reducible refine need_of ?hn ?_); (case hn => ((simp (disch := omega) only [hA, OK, emaU, Int.reduceToNat, s_bat]) <;> omega)))
    refine OKs.mask (msk 61 [2, 5, 43, 44]) ?_
    refine OKs.loopN (fun n st => ∃ y : Int, st = ⟨mkT 61 [(2, .ptr 1 0), (5, .isl bn none bc), (43, .lit (.int .i64 (A.ofn bn))), (44, .lit (.int .i64 y))], [.blk [.isl fn none fc, .isl nn none nc], .blk [.lit (.int .i64 0), .lit (.slice none 0 0), .lit (.int .i64 0)]]⟩ ∧ n = (bn - y).toNat ∧ 0 ≤ y ∧ y ≤ bn ∧ ∀ j, j < y.toNat → j < 256 ∧ okN ((ds.take j).map Nd.p) (ds.getD j nd0).p) (fun n st hs' ih => ?_) ⟨0, rfl, rfl, by omega, by omega, fun j hj => absurd hj (by simp)⟩
    obtain ⟨y, rfl, hyn, hy1, hy2, hy3⟩ := hs'
    have hst := allP_step hy1 hy3
    have hw := hwr y hy1
    rw [show ((y.toNat : Nat) : Int) = y by omega] at hw
    have hLp : y < bn → List.take 1 (List.drop (A.add (A.idx 0 y 10) 0) bc) = [.isl (ds.getD y.toNat nd0).p.path.length (ds.getD y.toNat nd0).cap (ds.getD y.toNat nd0).pc] := fun hy => by
      have := hdg y hy1 hy
      rw [hA, s_addN, s_idx, Nat.zero_add, Nat.add_zero]
      rw [show List.take 1 (List.drop (y.toNat * 10) bc) = List.take 1 (List.take 10 (List.drop (y.toNat * 10) bc)) by rw [List.take_take]; rfl, this]
      rfl
    have hyd : y < bn → y.toNat < ds.length := fun h => by omega
    generalize (ds.getD y.toNat nd0).p.path.length = dn, (ds.getD y.toNat nd0).cap = dc, (ds.getD y.toNat nd0).pc = dp at hLp
    with_reducible refine runS hA hd hQ 200 ?hk ?_
    case hk => exact trivial
    conv => arg 9; cbv
    try simp only [OK]
    repeat' first | (with_reducible refine OKK.loop ?_) | (with_reducible refine OKK.again ?_) | ((with_reducible refine ⟨fun hbr => ?_, fun hbr => ?_⟩) <;> (try simp (disch := omega) only [hA, OK, emaU, Int.reduceToNat, s_bat, reduceCtorEq] at hbr) <;> (try (with_reducible exfalso; omega))) | ((with_reducible refine runK hA hd hQ 200 ?hk ?_); (case hk => exact trivial); (conv => arg 9; cbv); (try simp only [OK])) | ((with_reducible refine need_of ?hn ?_); (case hn => ((simp (disch := omega) only [hA, OK, emaU, Int.reduceToNat, s_bat]) <;> omega))) | ((refine ⟨_, _, ?l1, (hLp (by omega)), rfl, ?_⟩); (case l1 => exact rfl)) | (refine CallOK.of (goodF_of F56_ok) (Tri.mono (hw (by omega) _) fun v hh hx => ?_); (obtain ⟨⟨z, hv, hz⟩, he⟩ := hx; subst hv; subst he))
    · exact FinR.f rfl (Up.cap _ _ _) ⟨fun h => absurd h hbr, fun h => absurd (hz.2 (hmay.1 h _ (hyd (by assumption)))) hbr⟩
    · refine OKs.mask (msk 61 [2, 5, 43, 44]) (ih _ _ ⟨_, rfl, rfl, ?_, ?_, ?_⟩ ?_)
      all_goals simp (disch := omega) only [hA, OK, emaU, Int.reduceToNat, s_bat]
      all_goals first
        | omega
        | exact hst (hz.1 (Classical.byContradiction hbr))
    · exact FinR.f rfl (Up.nil []) ⟨fun _ => hmay.2 (fun k hk => hy3 k (by omega)), fun _ => rfl⟩
  rcases hor with ⟨e0, e1, e2⟩ | ⟨e1, e2⟩ <;> subst e1 <;> subst e2 <;> subst hv2 <;> subst hh2
  · with_reducible refine runK hA hd hQ 1 ?hk ?_
    case hk => exact trivial
    conv => arg 9; cbv
    try simp only [OK]
    repeat' first | (with_reducible refine OKK.loop ?_) | (with_reducible refine OKK.again ?_) | (with_reducible refine OKK.stopS (some 42) ?_) | (with_reducible refine OKK.stopO (some 42) ?_) | ((with_reducible refine ⟨fun hbr => ?_, fun hbr => ?_⟩) <;> (try simp (disch := omega) only [hA, OK, emaU, Int.reduceToNat, s_bat, reduceCtorEq] at hbr) <;> (try (with_reducible exfalso; omega))) | ((with_reducible refine runK hA hd hQ 1 ?hk ?_); (case hk => exact trivial); (conv => arg 9; cbv); (try simp only [OK])) | ((with_reducible refine need_of ?hn ?_); (case hn => ((simp (disch := omega) only [hA, OK, emaU, Int.reduceToNat, s_bat]) <;> omega)))
    refine OKs.mask (msk 61 [2, 5]) ?_
    refine OKs.up 5 (.isl bn none bc) (by rw [e0, show bc = [] by rw [hbc, List.length_eq_zero_iff.1 (hbn.symm.trans e0)]; rfl]; exact Up.nil _) ?_
    exact rest
  · rw [sub0a _ _ hmv2]
    with_reducible refine runK hA hd hQ 1 ?hk ?_
    case hk => exact trivial
    conv => arg 9; cbv
    try simp only [OK]
    repeat' first | (with_reducible refine OKK.loop ?_) | (with_reducible refine OKK.again ?_) | (with_reducible refine OKK.stopS (some 42) ?_) | (with_reducible refine OKK.stopO (some 42) ?_) | ((with_reducible refine ⟨fun hbr => ?_, fun hbr => ?_⟩) <;> (try simp (disch := omega) only [hA, OK, emaU, Int.reduceToNat, s_bat, reduceCtorEq] at hbr) <;> (try (with_reducible exfalso; omega))) | ((with_reducible refine runK hA hd hQ 1 ?hk ?_); (case hk => exact trivial); (conv => arg 9; cbv); (try simp only [OK])) | ((with_reducible refine need_of ?hn ?_); (case hn => ((simp (disch := omega) only [hA, OK, emaU, Int.reduceToNat, s_bat]) <;> omega)))
    refine OKs.mask (msk 61 [2, 5]) (OKs.mv [0, 1] [2] (by rw [hρ]; rfl) ⟨by decide, by simp [sizeH], fun id hid => by simp at hid; subst hid; exact ⟨_, rfl, by rw [hbc]; exact clDs ds⟩⟩ ?_)
    exact rest
end Go.Proofs.YtecephhhjhpcjaaGreatDoor.Stats
end
