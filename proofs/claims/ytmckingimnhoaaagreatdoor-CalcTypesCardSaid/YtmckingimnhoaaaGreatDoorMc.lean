/- YtmckingimnhoaaaGreatDoorMc: the texts Sc1, Sc2, St1, St2, St3, St4, St5, St6, St7, St8, St9, brought together. No conditions. -/
import Derived.Test.YtmckingimnhoaaaGreatDoorMb
import Derived.Test.YtmckingimnhoaaaGreatDoorX32
import Derived.Test.YtmckingimnhoaaaGreatDoorX35
import Derived.Test.YtmckingimnhoaaaGreatDoorX34
import Derived.Test.YtmckingimnhoaaaGreatDoorX37
import Derived.Test.YtmckingimnhoaaaGreatDoorProg
import Derived.KernelRfl
set_option linter.unusedVariables false
set_option linter.unusedSimpArgs false
namespace Go.Proofs.YtmckingimnhoaaaGreatDoor.Stats
open Go Go.Proofs.YtmckingimnhoaaaGreatDoor Go.Proofs.YtmckingimnhoaaaGreatDoor.Em
def tabF : List (Nat × FC) := [(7, F7), (8, F8), (9, F9), (18, F18), (19, F19), (20, F20), (21, F21), (22, F22), (23, F23), (24, F24), (25, F25), (54, F54), (55, F55), (56, F56), (57, F57), (58, F58), (59, F59), (60, F60), (61, F61), (63, F63), (76, F76), (77, F77), (78, F78), (79, F79), (80, F80), (81, F81), (82, F82), (83, F83), (87, F87), (90, F90), (93, F93), (95, F95), (96, F96), (101, F101), (102, F102), (103, F103), (104, F104), (105, F105), (106, F106), (107, F107), (108, F108), (109, F109), (111, F111), (112, F112), (113, F113), (114, F114), (115, F115), (117, F117), (118, F118), (120, F120), (121, F121), (123, F123), (125, F125), (126, F126), (127, F127), (128, F128), (129, F129), (130, F130), (131, F131), (132, F132), (135, F135), (146, F146), (147, F147), (148, F148), (149, F149), (150, F150), (151, F151), (153, F153), (155, F155), (156, F156), (157, F157), (158, F158), (159, F159), (161, F161), (163, F163), (165, F165), (166, F166), (167, F167), (168, F168), (171, F171), (172, F172), (182, F182), (183, F183), (184, F184), (187, F187), (189, F189), (190, F190), (195, F195), (199, F199), (200, F200), (201, F201), (204, F204), (206, F206), (207, F207), (208, F208), (209, F209), (210, F210), (212, F212), (213, F213), (215, F215), (217, F217), (218, F218), (219, F219), (221, F221), (224, F224), (231, F231), (232, F232), (233, F233), (234, F234), (235, F235), (269, F269), (270, F270), (271, F271), (272, F272), (278, F278), (312, F312), (328, F328), (329, F329), (330, F330), (332, F332), (337, F337), (338, F338), (339, F339), (340, F340), (347, F347), (350, F350)]
theorem tabF_ok : tabOK (compF Tryz.prog) tabF := ⟨F7_ok, F8_ok, F9_ok, F18_ok, F19_ok, F20_ok, F21_ok, F22_ok, F23_ok, F24_ok, F25_ok, F54_ok, F55_ok, F56_ok, F57_ok, F58_ok, F59_ok, F60_ok, F61_ok, F63_ok, F76_ok, F77_ok, F78_ok, F79_ok, F80_ok, F81_ok, F82_ok, F83_ok, F87_ok, F90_ok, F93_ok, F95_ok, F96_ok, F101_ok, F102_ok, F103_ok, F104_ok, F105_ok, F106_ok, F107_ok, F108_ok, F109_ok, F111_ok, F112_ok, F113_ok, F114_ok, F115_ok, F117_ok, F118_ok, F120_ok, F121_ok, F123_ok, F125_ok, F126_ok, F127_ok, F128_ok, F129_ok, F130_ok, F131_ok, F132_ok, F135_ok, F146_ok, F147_ok, F148_ok, F149_ok, F150_ok, F151_ok, F153_ok, F155_ok, F156_ok, F157_ok, F158_ok, F159_ok, F161_ok, F163_ok, F165_ok, F166_ok, F167_ok, F168_ok, F171_ok, F172_ok, F182_ok, F183_ok, F184_ok, F187_ok, F189_ok, F190_ok, F195_ok, F199_ok, F200_ok, F201_ok, F204_ok, F206_ok, F207_ok, F208_ok, F209_ok, F210_ok, F212_ok, F213_ok, F215_ok, F217_ok, F218_ok, F219_ok, F221_ok, F224_ok, F231_ok, F232_ok, F233_ok, F234_ok, F235_ok, F269_ok, F270_ok, F271_ok, F272_ok, F278_ok, F312_ok, F328_ok, F329_ok, F330_ok, F332_ok, F337_ok, F338_ok, F339_ok, F340_ok, F347_ok, F350_ok, trivial⟩
def tabD : List (Nat × DF) := [(110, D110), (152, D152)]
theorem tabD_ok : tabOK (compDF Tryz.prog) tabD := ⟨D110_ok, D152_ok, trivial⟩
def tabR : List (Nat × RF) := [(154, R154), (188, R188)]
theorem tabR_ok : tabOK (compRF Tryz.prog) tabR := ⟨R154_ok, R188_ok, trivial⟩
def tab : Tab := ⟨findF tabF, findF tabD, findF tabR⟩
theorem tab_ok : tab.OK Tryz.prog := ⟨findF_ok tabF_ok, findF_ok tabD_ok, findF_ok tabR_ok⟩
theorem hd : DrawSound Tryz.prog gs := draw_sound (by kernel_rfl)
theorem fixed_val : valX gs tab 100000 7 [] = some (.lit (.bool true)) := by kernel_rfl
theorem fixed_ok (h : EH) : Tri Tryz.prog gs 7 [] h fun v h' => v = .lit (.bool true) ∧ h' = h :=
  Tri.litC (φ := fun v => v = .lit (.bool true)) (fun v hv => by rw [hv]; rfl) rfl ((Tri.closed hd tab_ok (valX_exec fixed_val) rfl).2.mono fun v h' hx => hx.1) h
inductive Fld where
  | mk (nm : ByteArray) (nul : Bool) (kind width id idx : Int) (kids : List Fld)
mutual
def cellsF : Fld → List EV
  | .mk nm nul k w i x kids => [.lit (.string nm), .lit (.bool nul), .lit (.int .i64 k), .lit (.int .i64 w), .lit (.int .i64 i), .lit (.int .i64 x), .isl kids.length none (cellsFs kids)]
def cellsFs : List Fld → List EV
  | [] => []
  | f :: l => cellsF f ++ cellsFs l
end
def i64r (n : Int) : Prop := -9223372036854775808 ≤ n ∧ n ≤ 9223372036854775807
mutual
def okF : Fld → Prop
  | .mk nm nul k w i x kids => nm.size ≤ 140737488351232 ∧ i64r k ∧ i64r w ∧ i64r i ∧ i64r x ∧ kids.length ≤ 140737488351232 ∧ okFs kids
def okFs : List Fld → Prop
  | [] => True
  | f :: l => okF f ∧ okFs l
end
inductive Val where
  | mk (null : Bool) (num : Int) (text : ByteArray) (kids : List Val)
mutual
def cellsV : Val → List EV
  | .mk b n t l => [.lit (.bool b), .lit (.int .i64 n), .lit (.string t), .isl l.length none (cellsVs l)]
def cellsVs : List Val → List EV
  | [] => []
  | v :: l => cellsV v ++ cellsVs l
end
mutual
def okV : Val → Prop
  | .mk b n t l => i64r n ∧ t.size ≤ 140737488351232 ∧ l.length ≤ 140737488351232 ∧ okVs l
def okVs : List Val → Prop
  | [] => True
  | v :: l => okV v ∧ okVs l
end
theorem cellsF_length (f : Fld) : (cellsF f).length = 7 := by cases f; rfl
theorem cellsFs_length : ∀ l : List Fld, (cellsFs l).length = 7 * l.length
  | [] => rfl
  | f :: l => by simp only [cellsFs, List.length_append, cellsF_length, cellsFs_length l, List.length_cons]; omega
theorem pieces_of {α : Type} {n : Nat} {cells : α → List EV} {cellss : List α → List EV} {ok : α → Prop} {oks : List α → Prop} (h0 : cellss [] = []) (h1 : ∀ a l, cellss (a :: l) = cells a ++ cellss l) (o0 : oks []) (o1 : ∀ a l, ok a → oks l → oks (a :: l)) :
    ∀ (len : Nat) (c : List EV), c.length = len * n → (∀ i, i < len → ∃ a, (c.drop (i * n)).take n = cells a ∧ ok a) → ∃ l : List α, l.length = len ∧ c = cellss l ∧ oks l
  | 0, c, hl, _ => ⟨[], rfl, by rw [h0]; exact List.length_eq_zero_iff.1 (by omega), o0⟩
  | len + 1, c, hl, h => by
    obtain ⟨a, e1, e2⟩ := h 0 (by omega)
    obtain ⟨l, k1, k2, k3⟩ := pieces_of (n := n) h0 h1 o0 o1 len (c.drop n) (by rw [List.length_drop, hl, Nat.add_mul]; omega) (fun i hi => by
      obtain ⟨b, q1, q2⟩ := h (i + 1) (by omega)
      refine ⟨b, ?_, q2⟩
      rw [List.drop_drop, ← q1]
      congr 2
      rw [Nat.add_mul]; omega)
    refine ⟨a :: l, by simp [k1], ?_, o1 a l e2 k3⟩
    rw [h1, ← e1, ← k2]
    simp
def tys : List TypeId := [26, 24, 22, 71, 69, 79, 77, 101, 48, 5, 3, 2, 9, 4]
theorem tys_ok : okL Tryz.prog tys = true := by kernel_rfl
theorem cut1 {c : List EV} {x : EV} (h : c.take 1 = [x]) : c = x :: c.drop 1 := by
  match c, h with
  | y :: l, h => simp at h; subst h; rfl
theorem cells_bool : Tryz.prog.cellsOf 4 = 1 := by kernel_rfl
theorem cells_int : Tryz.prog.cellsOf 3 = 1 := by kernel_rfl
theorem cells_string : Tryz.prog.cellsOf 9 = 1 := by kernel_rfl
theorem cells_field : Tryz.prog.cellsOf 26 = 7 := by kernel_rfl
theorem cells_type : Tryz.prog.cellsOf 24 = 5 := by kernel_rfl
theorem cells_fields : Tryz.prog.cellsOf 22 = 1 := by kernel_rfl
theorem hasFld : ∀ (m : Nat) (c : List EV), HasT Tryz.prog m 26 c → ∃ f, c = cellsF f ∧ okF f := by
  intro m
  induction m using Nat.strongRecOn with
  | _ m ih =>
  intro c h
  obtain ⟨m1, rfl, g1⟩ := HasT.struct Tryz.underlying26 h
  obtain ⟨_, h1, g2⟩ := HasTF.cons g1 rfl cells_string
  obtain ⟨_, h2, g3⟩ := HasTF.cons g2 rfl cells_bool
  obtain ⟨_, h3, g4⟩ := HasTF.cons g3 rfl cells_type
  have h4 := HasTF.nil g4
  obtain ⟨nm, e1, q1⟩ := HasT.str Tryz.underlying9 h1
  obtain ⟨nul, e2⟩ := HasT.bool Tryz.underlying4 h2
  obtain ⟨m2, rfl, g5⟩ := HasT.struct Tryz.underlying24 h3
  obtain ⟨_, h5, g6⟩ := HasTF.cons g5 rfl cells_int
  obtain ⟨_, h6, g7⟩ := HasTF.cons g6 rfl cells_int
  obtain ⟨_, h7, g8⟩ := HasTF.cons g7 rfl cells_int
  obtain ⟨_, h8, g9⟩ := HasTF.cons g8 rfl cells_int
  obtain ⟨_, h9, g10⟩ := HasTF.cons g9 rfl cells_fields
  have h10 := HasTF.nil g10
  obtain ⟨k, e5, q5⟩ := HasT.int Tryz.underlying3 h5
  obtain ⟨w, e6, q6⟩ := HasT.int Tryz.underlying3 h6
  obtain ⟨i, e7, q7⟩ := HasT.int Tryz.underlying3 h7
  obtain ⟨x, e8, q8⟩ := HasT.int Tryz.underlying3 h8
  obtain ⟨m3, len, l, rfl, e9, q9, hl, hk⟩ := HasT.slice Tryz.underlying22 cells_field h9
  obtain ⟨kids, k1, k2, k3⟩ := pieces_of (n := 7) (cells := cellsF) (cellss := cellsFs) (ok := okF) (oks := okFs) rfl (fun _ _ => rfl) trivial (fun _ _ a b => ⟨a, b⟩) len l hl (fun i hi => ih m3 (by omega) _ (hk i hi))
  refine ⟨.mk nm nul k w i x kids, ?_, q1, q5, q6, q7, q8, by omega, k3⟩
  have d1 := cut1 e1
  have d2 := cut1 e2
  have d5 := cut1 e5
  have d6 := cut1 e6
  have d7 := cut1 e7
  have d8 := cut1 e8
  have d9 := cut1 e9
  have d10 : ((c.drop 1).drop 1) = ((c.drop 1).drop 1).take 5 ++ [] := by
    conv => lhs; rw [← List.take_append_drop 5 ((c.drop 1).drop 1), h4]
  rw [d1, d2, d10, d5, d6, d7, d8, d9, h10, ← k1, k2]
  rfl
def bs (s : ByteArray) (i : Nat) : Int := stdA.bat s i
def letP (c : Int) : Prop := 97 ≤ c ∧ c ≤ 122 ∨ 65 ≤ c ∧ c ≤ 90 ∨ 48 ≤ c ∧ c ≤ 57 ∨ c = 95
def nameP (s : ByteArray) : Prop := 0 < s.size ∧ s.size ≤ 48 ∧ (∀ i, i < s.size → letP (bs s i)) ∧ ¬ (48 ≤ bs s 0 ∧ bs s 0 ≤ 57)
def Fld.nm : Fld → ByteArray | .mk a _ _ _ _ _ _ => a
def Fld.nul : Fld → Bool | .mk _ a _ _ _ _ _ => a
def Fld.kind : Fld → Int | .mk _ _ a _ _ _ _ => a
def Fld.width : Fld → Int | .mk _ _ _ a _ _ _ => a
def Fld.id : Fld → Int | .mk _ _ _ _ a _ _ => a
def Fld.idx : Fld → Int | .mk _ _ _ _ _ a _ => a
def Fld.kids : Fld → List Fld | .mk _ _ _ _ _ _ a => a
def kid0 (l : List Fld) : Bool := match l with | [] => false | f :: _ => f.nul
def fitsP (k w i x : Int) (n : Nat) : Prop :=
  1 ≤ k ∧ k ≤ 20 ∧
    if k = 14 then 1 ≤ w ∧ w ≤ 16 ∧ i = 0 ∧ x = 0 ∧ n = 0
    else if k = 15 ∨ k = 20 then w = 0 ∧ i = 0 ∧ x = 0 ∧ n = 1
    else if k = 16 then 1 ≤ w ∧ w ≤ 64 ∧ i = 0 ∧ x = 0 ∧ n = 1
    else if k = 17 then w = 0 ∧ i = 0 ∧ x = 0 ∧ n ≤ 32
    else if k = 18 then w = 0 ∧ i = 0 ∧ x = 0 ∧ 1 ≤ n ∧ n ≤ 32
    else if k = 19 then w = 0 ∧ 0 ≤ i ∧ i < 32 ∧ 3 ≤ x ∧ x ≤ 10 ∧ n = 1
    else w = 0 ∧ i = 0 ∧ x = 0 ∧ n = 0
def nullsP (nul : Bool) (k : Int) (kids : List Fld) : Prop := (k = 1 → nul = true) ∧ (k = 18 → nul = false) ∧ (k = 20 → nul = kid0 kids)
structure Pl where
  path : List Nat
  ahead : List Fld
  f : Fld
  inD : Bool
mutual
def nodesF (path : List Nat) (ahead : List Fld) (inD : Bool) : Fld → List Pl
  | .mk a b k w i x kids => ⟨path ++ [ahead.length], ahead, .mk a b k w i x kids, inD⟩ :: (if path.length < 64 then nodesFs (path ++ [ahead.length]) [] (inD || decide (k = 19)) kids else [])
def nodesFs (path : List Nat) (ahead : List Fld) (inD : Bool) : List Fld → List Pl
  | [] => []
  | f :: l => nodesF path ahead inD f ++ nodesFs path (ahead ++ [f]) inD l
end
def okN (prev : List Pl) (p : Pl) : Prop :=
  p.path.length ≤ 64 ∧ nameP p.f.nm ∧ (∀ g ∈ p.ahead, g.nm ≠ p.f.nm) ∧ fitsP p.f.kind p.f.width p.f.id p.f.idx p.f.kids.length ∧ nullsP p.f.nul p.f.kind p.f.kids ∧
  ¬ (p.inD = true ∧ (p.f.kind = 19 ∨ p.f.kind = 20)) ∧ ¬ (p.f.kind = 19 ∧ (kid0 p.f.kids = true ∨ ∃ o ∈ prev, o.f.kind = 19 ∧ o.f.id = p.f.id))
def allN (prev : List Pl) : List Pl → Prop
  | [] => True
  | p :: l => prev.length < 256 ∧ okN prev p ∧ allN (prev ++ [p]) l
theorem allN_app : ∀ (l m prev : List Pl), allN prev (l ++ m) ↔ allN prev l ∧ allN (prev ++ l) m
  | [], m, prev => by simp [allN]
  | p :: l, m, prev => by
    have := allN_app l m (prev ++ [p])
    simp only [List.cons_append, allN, this, List.append_assoc, List.nil_append, and_assoc]
set_option maxHeartbeats 1000000 in
theorem letter_ok (c : Int) (h : EH) : Tri Tryz.prog gs 155 [.lit (.int .u8 c)] h fun v h' => IsP (letP c) v ∧ h' = h := by
  refine Tri.boolC rfl (Tri_of F155_ok fun I0 ρ0 w0 Q hρ hQ => ?_) h
  obtain ⟨A, hA⟩ : ∃ A, A = stdA := ⟨_, rfl⟩
  with_reducible refine runS hA hd hQ 200 ?hk ?_
  case hk => exact trivial
  conv => arg 9; cbv
  try simp only [OK]
  repeat' first | ((with_reducible refine ⟨fun hbr => ?_, fun hbr => ?_⟩) <;> (try simp (disch := omega) only [hA, OK, s_le, s_inb, s_slb, s_room, s_mks, s_ne0, s_nn, s_eql, s_neq, s_lss, s_leq, s_gtr, s_geq, s_isz, s_bnot, s_beq, s_idx, s_addN, s_subN, s_mulN, s_tn, s_ofn, s_nmin, s_drp, s_tak, s_app, s_len, s_leB, s_add, s_sub, s_mul, s_wr64, s_wr8, bytesE_fold, bytesE_length, bytesE_drop, bytesE_take, bytesE_app, intsE_fold, intsE_length, decide_eq_true_eq, decide_eq_false_iff_not, Nat.mul_one, Nat.zero_add, Nat.add_zero, Bool.not_eq_true', List.length_take, List.length_drop, List.length_append, List.length_cons, List.length_nil, List.drop_zero, reduceCtorEq] at hbr) <;> (try (with_reducible exfalso; omega))) | ((with_reducible refine runK hA hd hQ 200 ?hk ?_); (case hk => exact trivial); (conv => arg 9; cbv); (try simp only [OK])) | ((with_reducible refine need_of ?hn ?_); (case hn => ((simp (disch := omega) only [hA, OK, s_le, s_inb, s_slb, s_room, s_mks, s_ne0, s_nn, s_eql, s_neq, s_lss, s_leq, s_gtr, s_geq, s_isz, s_bnot, s_beq, s_idx, s_addN, s_subN, s_mulN, s_tn, s_ofn, s_nmin, s_drp, s_tak, s_app, s_len, s_leB, s_add, s_sub, s_mul, s_wr64, s_wr8, bytesE_fold, bytesE_length, bytesE_drop, bytesE_take, bytesE_app, intsE_fold, intsE_length, decide_eq_true_eq, decide_eq_false_iff_not, Nat.mul_one, Nat.zero_add, Nat.add_zero, Bool.not_eq_true', List.length_take, List.length_drop, List.length_append, List.length_cons, List.length_nil, List.drop_zero]) <;> omega))) | fail
  all_goals refine ⟨_, rfl, _, (by first | exact .inl rfl | exact .inr rfl), ?_⟩
  all_goals (try simp (disch := omega) only [hA, OK, s_le, s_inb, s_slb, s_room, s_mks, s_ne0, s_nn, s_eql, s_neq, s_lss, s_leq, s_gtr, s_geq, s_isz, s_bnot, s_beq, s_idx, s_addN, s_subN, s_mulN, s_tn, s_ofn, s_nmin, s_drp, s_tak, s_app, s_len, s_leB, s_add, s_sub, s_mul, s_wr64, s_wr8, bytesE_fold, bytesE_length, bytesE_drop, bytesE_take, bytesE_app, intsE_fold, intsE_length, decide_eq_true_eq, decide_eq_false_iff_not, Nat.mul_one, Nat.zero_add, Nat.add_zero, Bool.not_eq_true', List.length_take, List.length_drop, List.length_append, List.length_cons, List.length_nil, List.drop_zero, Bool.false_eq_true, true_iff, false_iff, eq_self, iff_true, iff_false , letP])
  all_goals first | omega | (simp <;> omega) | (simp_all <;> omega)
set_option maxHeartbeats 1000000 in
theorem letterR_ok (c : Int) (h : EH) : Tri Tryz.prog gs 181 [.lit (.int .u8 c)] h fun v h' => IsP (letP c) v ∧ h' = h := by
  refine Tri.boolC rfl (Tri_of F181_ok fun I0 ρ0 w0 Q hρ hQ => ?_) h
  obtain ⟨A, hA⟩ : ∃ A, A = stdA := ⟨_, rfl⟩
  with_reducible refine runS hA hd hQ 200 ?hk ?_
  case hk => exact trivial
  conv => arg 9; cbv
  try simp only [OK]
  repeat' first | ((with_reducible refine ⟨fun hbr => ?_, fun hbr => ?_⟩) <;> (try simp (disch := omega) only [hA, OK, s_le, s_inb, s_slb, s_room, s_mks, s_ne0, s_nn, s_eql, s_neq, s_lss, s_leq, s_gtr, s_geq, s_isz, s_bnot, s_beq, s_idx, s_addN, s_subN, s_mulN, s_tn, s_ofn, s_nmin, s_drp, s_tak, s_app, s_len, s_leB, s_add, s_sub, s_mul, s_wr64, s_wr8, bytesE_fold, bytesE_length, bytesE_drop, bytesE_take, bytesE_app, intsE_fold, intsE_length, decide_eq_true_eq, decide_eq_false_iff_not, Nat.mul_one, Nat.zero_add, Nat.add_zero, Bool.not_eq_true', List.length_take, List.length_drop, List.length_append, List.length_cons, List.length_nil, List.drop_zero, reduceCtorEq] at hbr) <;> (try (with_reducible exfalso; omega))) | ((with_reducible refine runK hA hd hQ 200 ?hk ?_); (case hk => exact trivial); (conv => arg 9; cbv); (try simp only [OK])) | ((with_reducible refine need_of ?hn ?_); (case hn => ((simp (disch := omega) only [hA, OK, s_le, s_inb, s_slb, s_room, s_mks, s_ne0, s_nn, s_eql, s_neq, s_lss, s_leq, s_gtr, s_geq, s_isz, s_bnot, s_beq, s_idx, s_addN, s_subN, s_mulN, s_tn, s_ofn, s_nmin, s_drp, s_tak, s_app, s_len, s_leB, s_add, s_sub, s_mul, s_wr64, s_wr8, bytesE_fold, bytesE_length, bytesE_drop, bytesE_take, bytesE_app, intsE_fold, intsE_length, decide_eq_true_eq, decide_eq_false_iff_not, Nat.mul_one, Nat.zero_add, Nat.add_zero, Bool.not_eq_true', List.length_take, List.length_drop, List.length_append, List.length_cons, List.length_nil, List.drop_zero]) <;> omega))) | fail
  all_goals refine ⟨_, rfl, _, (by first | exact .inl rfl | exact .inr rfl), ?_⟩
  all_goals (try simp (disch := omega) only [hA, OK, s_le, s_inb, s_slb, s_room, s_mks, s_ne0, s_nn, s_eql, s_neq, s_lss, s_leq, s_gtr, s_geq, s_isz, s_bnot, s_beq, s_idx, s_addN, s_subN, s_mulN, s_tn, s_ofn, s_nmin, s_drp, s_tak, s_app, s_len, s_leB, s_add, s_sub, s_mul, s_wr64, s_wr8, bytesE_fold, bytesE_length, bytesE_drop, bytesE_take, bytesE_app, intsE_fold, intsE_length, decide_eq_true_eq, decide_eq_false_iff_not, Nat.mul_one, Nat.zero_add, Nat.add_zero, Bool.not_eq_true', List.length_take, List.length_drop, List.length_append, List.length_cons, List.length_nil, List.drop_zero, Bool.false_eq_true, true_iff, false_iff, eq_self, iff_true, iff_false , letP])
  all_goals first | omega | (simp <;> omega) | (simp_all <;> omega)
set_option maxHeartbeats 1000000 in
theorem known_ok (k : Int) (h : EH) : Tri Tryz.prog gs 157 [.lit (.int .i64 k)] h fun v h' => IsP (1 ≤ k ∧ k ≤ 20) v ∧ h' = h := by
  refine Tri.boolC rfl (Tri_of F157_ok fun I0 ρ0 w0 Q hρ hQ => ?_) h
  obtain ⟨A, hA⟩ : ∃ A, A = stdA := ⟨_, rfl⟩
  with_reducible refine runS hA hd hQ 200 ?hk ?_
  case hk => exact trivial
  conv => arg 9; cbv
  try simp only [OK]
  repeat' first | ((with_reducible refine ⟨fun hbr => ?_, fun hbr => ?_⟩) <;> (try simp (disch := omega) only [hA, OK, s_le, s_inb, s_slb, s_room, s_mks, s_ne0, s_nn, s_eql, s_neq, s_lss, s_leq, s_gtr, s_geq, s_isz, s_bnot, s_beq, s_idx, s_addN, s_subN, s_mulN, s_tn, s_ofn, s_nmin, s_drp, s_tak, s_app, s_len, s_leB, s_add, s_sub, s_mul, s_wr64, s_wr8, bytesE_fold, bytesE_length, bytesE_drop, bytesE_take, bytesE_app, intsE_fold, intsE_length, decide_eq_true_eq, decide_eq_false_iff_not, Nat.mul_one, Nat.zero_add, Nat.add_zero, Bool.not_eq_true', List.length_take, List.length_drop, List.length_append, List.length_cons, List.length_nil, List.drop_zero, reduceCtorEq] at hbr) <;> (try (with_reducible exfalso; omega))) | ((with_reducible refine runK hA hd hQ 200 ?hk ?_); (case hk => exact trivial); (conv => arg 9; cbv); (try simp only [OK])) | ((with_reducible refine need_of ?hn ?_); (case hn => ((simp (disch := omega) only [hA, OK, s_le, s_inb, s_slb, s_room, s_mks, s_ne0, s_nn, s_eql, s_neq, s_lss, s_leq, s_gtr, s_geq, s_isz, s_bnot, s_beq, s_idx, s_addN, s_subN, s_mulN, s_tn, s_ofn, s_nmin, s_drp, s_tak, s_app, s_len, s_leB, s_add, s_sub, s_mul, s_wr64, s_wr8, bytesE_fold, bytesE_length, bytesE_drop, bytesE_take, bytesE_app, intsE_fold, intsE_length, decide_eq_true_eq, decide_eq_false_iff_not, Nat.mul_one, Nat.zero_add, Nat.add_zero, Bool.not_eq_true', List.length_take, List.length_drop, List.length_append, List.length_cons, List.length_nil, List.drop_zero]) <;> omega))) | fail
  all_goals refine ⟨_, rfl, _, (by first | exact .inl rfl | exact .inr rfl), ?_⟩
  all_goals (try simp (disch := omega) only [hA, OK, s_le, s_inb, s_slb, s_room, s_mks, s_ne0, s_nn, s_eql, s_neq, s_lss, s_leq, s_gtr, s_geq, s_isz, s_bnot, s_beq, s_idx, s_addN, s_subN, s_mulN, s_tn, s_ofn, s_nmin, s_drp, s_tak, s_app, s_len, s_leB, s_add, s_sub, s_mul, s_wr64, s_wr8, bytesE_fold, bytesE_length, bytesE_drop, bytesE_take, bytesE_app, intsE_fold, intsE_length, decide_eq_true_eq, decide_eq_false_iff_not, Nat.mul_one, Nat.zero_add, Nat.add_zero, Bool.not_eq_true', List.length_take, List.length_drop, List.length_append, List.length_cons, List.length_nil, List.drop_zero, Bool.false_eq_true, true_iff, false_iff, eq_self, iff_true, iff_false])
  all_goals first | omega | (simp <;> omega) | (simp_all <;> omega)
mutual
theorem clF : ∀ f : Fld, clL (cellsF f) = true
  | .mk nm nul k w i x kids => by simp [cellsF, clL, clE, clFs kids]
theorem clFs : ∀ l : List Fld, clL (cellsFs l) = true
  | [] => rfl
  | f :: l => by
    have h1 := clF f
    have h2 := clFs l
    refine clL_of fun x hx => ?_
    rw [cellsFs] at hx
    rcases List.mem_append.1 hx with hx | hx
    · obtain ⟨j, hj⟩ := List.getElem?_of_mem hx; exact clL_get h1 j x hj
    · obtain ⟨j, hj⟩ := List.getElem?_of_mem hx; exact clL_get h2 j x hj
end
set_option maxHeartbeats 4000000 in
theorem shaped_ok (k w i x : Int) (n : Nat) (c : List EV) (h : EH) (hn : n ≤ 140737488351232) (hc : clL c = true) :
    Tri Tryz.prog gs 143 [.agg [.lit (.int .i64 k), .lit (.int .i64 w), .lit (.int .i64 i), .lit (.int .i64 x), .isl n none c]] h fun v h' => IsP (fitsP k w i x n) v ∧ h' = h := by
  refine Tri.boolC (by simp [clL, clE, hc]) (Tri_of F143_ok fun I0 ρ0 w0 Q hρ hQ => ?_) h
  obtain ⟨A, hA⟩ : ∃ A, A = stdA := ⟨_, rfl⟩
  with_reducible refine runS hA hd hQ 300 ?hk ?_
  case hk => exact trivial
  conv => arg 9; cbv
  try simp only [OK]
  repeat' first | ((with_reducible refine ⟨fun hbr => ?_, fun hbr => ?_⟩) <;> (try simp (disch := omega) only [hA, OK, s_le, s_inb, s_slb, s_room, s_mks, s_ne0, s_nn, s_eql, s_neq, s_lss, s_leq, s_gtr, s_geq, s_isz, s_bnot, s_beq, s_idx, s_addN, s_subN, s_mulN, s_tn, s_ofn, s_nmin, s_drp, s_tak, s_app, s_len, s_leB, s_add, s_sub, s_mul, s_wr64, s_wr8, bytesE_fold, bytesE_length, bytesE_drop, bytesE_take, bytesE_app, intsE_fold, intsE_length, decide_eq_true_eq, decide_eq_false_iff_not, Nat.mul_one, Nat.zero_add, Nat.add_zero, Bool.not_eq_true', List.length_take, List.length_drop, List.length_append, List.length_cons, List.length_nil, List.drop_zero, reduceCtorEq] at hbr) <;> (try (with_reducible exfalso; omega))) | ((with_reducible refine runK hA hd hQ 300 ?hk ?_); (case hk => exact trivial); (conv => arg 9; cbv); (try simp only [OK])) | ((with_reducible refine need_of ?hn ?_); (case hn => ((simp (disch := omega) only [hA, OK, s_le, s_inb, s_slb, s_room, s_mks, s_ne0, s_nn, s_eql, s_neq, s_lss, s_leq, s_gtr, s_geq, s_isz, s_bnot, s_beq, s_idx, s_addN, s_subN, s_mulN, s_tn, s_ofn, s_nmin, s_drp, s_tak, s_app, s_len, s_leB, s_add, s_sub, s_mul, s_wr64, s_wr8, bytesE_fold, bytesE_length, bytesE_drop, bytesE_take, bytesE_app, intsE_fold, intsE_length, decide_eq_true_eq, decide_eq_false_iff_not, Nat.mul_one, Nat.zero_add, Nat.add_zero, Bool.not_eq_true', List.length_take, List.length_drop, List.length_append, List.length_cons, List.length_nil, List.drop_zero]) <;> omega))) | fail
  all_goals refine ⟨_, rfl, _, (by first | exact .inl rfl | exact .inr rfl), ?_⟩
  all_goals (try simp (disch := omega) only [hA, OK, s_le, s_inb, s_slb, s_room, s_mks, s_ne0, s_nn, s_eql, s_neq, s_lss, s_leq, s_gtr, s_geq, s_isz, s_bnot, s_beq, s_idx, s_addN, s_subN, s_mulN, s_tn, s_ofn, s_nmin, s_drp, s_tak, s_app, s_len, s_leB, s_add, s_sub, s_mul, s_wr64, s_wr8, bytesE_fold, bytesE_length, bytesE_drop, bytesE_take, bytesE_app, intsE_fold, intsE_length, decide_eq_true_eq, decide_eq_false_iff_not, Nat.mul_one, Nat.zero_add, Nat.add_zero, Bool.not_eq_true', List.length_take, List.length_drop, List.length_append, List.length_cons, List.length_nil, List.drop_zero, Bool.false_eq_true, true_iff, false_iff, eq_self, iff_true, iff_false])
  all_goals unfold fitsP
  all_goals (repeat' split)
  all_goals omega
theorem kid_look (f : Fld) (l : List Fld) {c : List EV} (hc : c = cellsFs (f :: l)) : (c.drop 1).take 1 = [.lit (.bool f.nul)] := by
  subst hc; cases f; rfl
theorem one_of {k w i x : Int} {kids : List Fld} (hf : fitsP k w i x kids.length) (h : k = 20) : kids.length = 1 := by
  obtain ⟨_, _, hf⟩ := hf
  rw [if_neg (by omega), if_pos (.inr h)] at hf
  exact hf.2.2.2
set_option maxHeartbeats 4000000 in
theorem nullsR_ok (nm : ByteArray) (nul : Bool) (k w i x : Int) (kids : List Fld) (h : EH) (hf : fitsP k w i x kids.length) :
    Tri Tryz.prog gs 144 [.agg (cellsF (.mk nm nul k w i x kids))] h fun v h' => IsP (nullsP nul k kids) v ∧ h' = h := by
  refine Tri.boolC (by simp [clL, clE, cellsF, clFs]) (Tri_of F144_ok fun I0 ρ0 w0 Q hρ hQ => ?_) h
  obtain ⟨A, hA⟩ : ∃ A, A = stdA := ⟨_, rfl⟩
  simp only [cellsF]
  obtain ⟨n, hn⟩ : ∃ n, n = kids.length := ⟨_, rfl⟩
  obtain ⟨c, hc⟩ : ∃ c, c = cellsFs kids := ⟨_, rfl⟩
  have hn1 := (one_of hf)
  obtain ⟨b, hb⟩ : ∃ b, b = kid0 kids := ⟨_, rfl⟩
  have L : k = 20 → List.take 1 (List.drop (A.add (A.idx 0 0 7) 1) c) = [.lit (.bool b)] := fun h20 => by
    rw [hA, hc, hb]
    match kids, hn1 h20 with
    | [f], _ => exact kid_look f [] rfl
  have hp : nullsP nul k kids ↔ ((k = 1 → nul = true) ∧ (k = 18 → nul = false) ∧ (k = 20 → nul = b)) := by rw [hb]; exact Iff.rfl
  simp only [hp] at hQ
  rw [← hn] at hn1
  rw [← hn, ← hc]
  clear hp hb hc hn hf
  cases nul <;> cases b
  all_goals
    with_reducible refine runS hA hd hQ 300 ?hk ?_
    case hk => exact trivial
    conv => arg 9; cbv
    try simp only [OK]
    repeat' first | ((with_reducible refine ⟨fun hbr => ?_, fun hbr => ?_⟩) <;> (try simp (disch := omega) only [hA, OK, s_le, s_inb, s_slb, s_room, s_mks, s_ne0, s_nn, s_eql, s_neq, s_lss, s_leq, s_gtr, s_geq, s_isz, s_bnot, s_beq, s_idx, s_addN, s_subN, s_mulN, s_tn, s_ofn, s_nmin, s_drp, s_tak, s_app, s_len, s_leB, s_add, s_sub, s_mul, s_wr64, s_wr8, bytesE_fold, bytesE_length, bytesE_drop, bytesE_take, bytesE_app, intsE_fold, intsE_length, decide_eq_true_eq, decide_eq_false_iff_not, Nat.mul_one, Nat.zero_add, Nat.add_zero, Bool.not_eq_true', List.length_take, List.length_drop, List.length_append, List.length_cons, List.length_nil, List.drop_zero, reduceCtorEq] at hbr) <;> (try (with_reducible exfalso; omega))) | ((with_reducible refine runK hA hd hQ 300 ?hk ?_); (case hk => exact trivial); (conv => arg 9; cbv); (try simp only [OK])) | ((with_reducible refine need_of ?hn ?_); (case hn => ((simp (disch := omega) only [hA, OK, s_le, s_inb, s_slb, s_room, s_mks, s_ne0, s_nn, s_eql, s_neq, s_lss, s_leq, s_gtr, s_geq, s_isz, s_bnot, s_beq, s_idx, s_addN, s_subN, s_mulN, s_tn, s_ofn, s_nmin, s_drp, s_tak, s_app, s_len, s_leB, s_add, s_sub, s_mul, s_wr64, s_wr8, bytesE_fold, bytesE_length, bytesE_drop, bytesE_take, bytesE_app, intsE_fold, intsE_length, decide_eq_true_eq, decide_eq_false_iff_not, Nat.mul_one, Nat.zero_add, Nat.add_zero, Bool.not_eq_true', List.length_take, List.length_drop, List.length_append, List.length_cons, List.length_nil, List.drop_zero]) <;> omega))) | ((refine ⟨_, _, ?l1, (L hbr), rfl, ?_⟩); (case l1 => exact rfl)) | fail
  all_goals refine ⟨_, rfl, _, (by first | exact .inl rfl | exact .inr rfl), ?_⟩
  all_goals (try simp (disch := omega) only [hA, OK, s_le, s_inb, s_slb, s_room, s_mks, s_ne0, s_nn, s_eql, s_neq, s_lss, s_leq, s_gtr, s_geq, s_isz, s_bnot, s_beq, s_idx, s_addN, s_subN, s_mulN, s_tn, s_ofn, s_nmin, s_drp, s_tak, s_app, s_len, s_leB, s_add, s_sub, s_mul, s_wr64, s_wr8, bytesE_fold, bytesE_length, bytesE_drop, bytesE_take, bytesE_app, intsE_fold, intsE_length, decide_eq_true_eq, decide_eq_false_iff_not, Nat.mul_one, Nat.zero_add, Nat.add_zero, Bool.not_eq_true', List.length_take, List.length_drop, List.length_append, List.length_cons, List.length_nil, List.drop_zero, Bool.false_eq_true, true_iff, false_iff, eq_self, iff_true, iff_false , reduceCtorEq, imp_false])
  all_goals first | omega | (simp <;> omega) | (simp_all <;> omega)
set_option maxHeartbeats 4000000 in
theorem nulls_ok (nm : ByteArray) (nul : Bool) (k w i x : Int) (kids : List Fld) (h : EH) (hf : fitsP k w i x kids.length) :
    Tri Tryz.prog gs 118 [.agg (cellsF (.mk nm nul k w i x kids))] h fun v h' => IsP (nullsP nul k kids) v ∧ h' = h := by
  refine Tri.boolC (by simp [clL, clE, cellsF, clFs]) (Tri_of F118_ok fun I0 ρ0 w0 Q hρ hQ => ?_) h
  obtain ⟨A, hA⟩ : ∃ A, A = stdA := ⟨_, rfl⟩
  simp only [cellsF]
  obtain ⟨n, hn⟩ : ∃ n, n = kids.length := ⟨_, rfl⟩
  obtain ⟨c, hc⟩ : ∃ c, c = cellsFs kids := ⟨_, rfl⟩
  have hn1 := (one_of hf)
  obtain ⟨b, hb⟩ : ∃ b, b = kid0 kids := ⟨_, rfl⟩
  have L : k = 20 → List.take 1 (List.drop (A.add (A.idx 0 0 7) 1) c) = [.lit (.bool b)] := fun h20 => by
    rw [hA, hc, hb]
    match kids, hn1 h20 with
    | [f], _ => exact kid_look f [] rfl
  have hp : nullsP nul k kids ↔ ((k = 1 → nul = true) ∧ (k = 18 → nul = false) ∧ (k = 20 → nul = b)) := by rw [hb]; exact Iff.rfl
  simp only [hp] at hQ
  rw [← hn] at hn1
  rw [← hn, ← hc]
  clear hp hb hc hn hf
  cases nul <;> cases b
  all_goals
    with_reducible refine runS hA hd hQ 300 ?hk ?_
    case hk => exact trivial
    conv => arg 9; cbv
    try simp only [OK]
    repeat' first | ((with_reducible refine ⟨fun hbr => ?_, fun hbr => ?_⟩) <;> (try simp (disch := omega) only [hA, OK, s_le, s_inb, s_slb, s_room, s_mks, s_ne0, s_nn, s_eql, s_neq, s_lss, s_leq, s_gtr, s_geq, s_isz, s_bnot, s_beq, s_idx, s_addN, s_subN, s_mulN, s_tn, s_ofn, s_nmin, s_drp, s_tak, s_app, s_len, s_leB, s_add, s_sub, s_mul, s_wr64, s_wr8, bytesE_fold, bytesE_length, bytesE_drop, bytesE_take, bytesE_app, intsE_fold, intsE_length, decide_eq_true_eq, decide_eq_false_iff_not, Nat.mul_one, Nat.zero_add, Nat.add_zero, Bool.not_eq_true', List.length_take, List.length_drop, List.length_append, List.length_cons, List.length_nil, List.drop_zero, reduceCtorEq] at hbr) <;> (try (with_reducible exfalso; omega))) | ((with_reducible refine runK hA hd hQ 300 ?hk ?_); (case hk => exact trivial); (conv => arg 9; cbv); (try simp only [OK])) | ((with_reducible refine need_of ?hn ?_); (case hn => ((simp (disch := omega) only [hA, OK, s_le, s_inb, s_slb, s_room, s_mks, s_ne0, s_nn, s_eql, s_neq, s_lss, s_leq, s_gtr, s_geq, s_isz, s_bnot, s_beq, s_idx, s_addN, s_subN, s_mulN, s_tn, s_ofn, s_nmin, s_drp, s_tak, s_app, s_len, s_leB, s_add, s_sub, s_mul, s_wr64, s_wr8, bytesE_fold, bytesE_length, bytesE_drop, bytesE_take, bytesE_app, intsE_fold, intsE_length, decide_eq_true_eq, decide_eq_false_iff_not, Nat.mul_one, Nat.zero_add, Nat.add_zero, Bool.not_eq_true', List.length_take, List.length_drop, List.length_append, List.length_cons, List.length_nil, List.drop_zero]) <;> omega))) | ((refine ⟨_, _, ?l1, (L hbr), rfl, ?_⟩); (case l1 => exact rfl)) | fail
  all_goals refine ⟨_, rfl, _, (by first | exact .inl rfl | exact .inr rfl), ?_⟩
  all_goals (try simp (disch := omega) only [hA, OK, s_le, s_inb, s_slb, s_room, s_mks, s_ne0, s_nn, s_eql, s_neq, s_lss, s_leq, s_gtr, s_geq, s_isz, s_bnot, s_beq, s_idx, s_addN, s_subN, s_mulN, s_tn, s_ofn, s_nmin, s_drp, s_tak, s_app, s_len, s_leB, s_add, s_sub, s_mul, s_wr64, s_wr8, bytesE_fold, bytesE_length, bytesE_drop, bytesE_take, bytesE_app, intsE_fold, intsE_length, decide_eq_true_eq, decide_eq_false_iff_not, Nat.mul_one, Nat.zero_add, Nat.add_zero, Bool.not_eq_true', List.length_take, List.length_drop, List.length_append, List.length_cons, List.length_nil, List.drop_zero, Bool.false_eq_true, true_iff, false_iff, eq_self, iff_true, iff_false , reduceCtorEq, imp_false])
  all_goals first | omega | (simp <;> omega) | (simp_all <;> omega)
-- emaX: s_bat
theorem s_bat (s : ByteArray) (i : Nat) : stdA.bat s i = bs s i := rfl
theorem nameP_letter {s : ByteArray} {i : Nat} (hi : i < s.size) (h : ¬ letP (bs s i)) : ¬ nameP s := fun hn => h (hn.2.2.1 i hi)
theorem allP_step {p : Nat → Prop} {i : Int} (hi : 0 ≤ i) (h : ∀ j, j < i.toNat → p j) (h1 : p i.toNat) : ∀ j, j < (i + 1).toNat → p j := fun j hj => by
  by_cases e : j = i.toNat
  · subst e; exact h1
  · exact h j (by omega)
theorem emp_iff (s : ByteArray) : s = ⟨#[]⟩ ↔ s.size = 0 := by
  constructor
  · intro h; subst h; rfl
  · intro h
    apply ByteArray.ext
    apply Array.eq_empty_of_size_eq_zero
    exact h
set_option maxHeartbeats 2000000 in
theorem isNameR_ok (s : ByteArray) (hs : s.size ≤ 140737488351232) (h : EH) : Tri Tryz.prog gs 142 [.lit (.string s)] h fun v h' => IsP (nameP s) v ∧ h' = h := by
  refine Tri.boolC rfl (Tri_of F142_ok fun I0 ρ0 w0 Q hρ hQ => ?_) h
  obtain ⟨A, hA⟩ : ∃ A, A = stdA := ⟨_, rfl⟩
  with_reducible refine runS hA hd hQ 200 ?hk ?_
  case hk => exact trivial
  conv => arg 9; cbv
  try simp only [OK]
  repeat' first | (with_reducible refine OKK.loop ?_) | (with_reducible refine OKK.again ?_) | ((with_reducible refine ⟨fun hbr => ?_, fun hbr => ?_⟩) <;> (try simp (disch := omega) only [hA, OK, emaU, Int.reduceToNat, s_bat, reduceCtorEq] at hbr) <;> (try (with_reducible exfalso; omega))) | ((with_reducible refine runK hA hd hQ 200 ?hk ?_); (case hk => exact trivial); (conv => arg 9; cbv); (try simp only [OK])) | ((with_reducible refine need_of ?hn ?_); (case hn => ((simp (disch := omega) only [hA, OK, emaU, Int.reduceToNat, s_bat]) <;> omega))) | fail
  all_goals (try (with_reducible refine FinR.self ?_; first | refine FinR.bl rfl ?_ | refine FinR.bs rfl ?_ | refine FinR.blh rfl ?_ rfl | refine FinR.bsh rfl ?_ rfl))
  all_goals (try simp (disch := omega) only [hA, OK, emaU, Int.reduceToNat, s_bat, Bool.false_eq_true, true_iff, false_iff, eq_self, iff_true, iff_false])
  all_goals try (clear hQ; unfold nameP; omega)
  all_goals
    refine OKs.mask (msk 33 [0, 3]) ?_
    refine OKs.loopN (fun n st => ∃ i : Int, st = ⟨mkT 33 [(0, .lit (.string s)), (3, .lit (.int .i64 i))], []⟩ ∧ n = (s.size - i).toNat ∧ 0 ≤ i ∧ i ≤ s.size ∧ ∀ j, j < i.toNat → letP (bs s j)) (fun n st hs' ih => ?_) ⟨0, rfl, rfl, by omega, by omega, fun j hj => absurd hj (by simp)⟩
    obtain ⟨i, rfl, hn, hi1, hi2, hi3⟩ := hs'
    with_reducible refine runS hA hd hQ 200 ?hk ?_
    case hk => exact trivial
    conv => arg 9; cbv
    try simp only [OK]
    repeat' first | (with_reducible refine OKK.loop ?_) | (with_reducible refine OKK.again ?_) | ((with_reducible refine ⟨fun hbr => ?_, fun hbr => ?_⟩) <;> (try simp (disch := omega) only [hA, OK, emaU, Int.reduceToNat, s_bat, reduceCtorEq] at hbr) <;> (try (with_reducible exfalso; omega))) | ((with_reducible refine runK hA hd hQ 200 ?hk ?_); (case hk => exact trivial); (conv => arg 9; cbv); (try simp only [OK])) | ((with_reducible refine need_of ?hn ?_); (case hn => ((simp (disch := omega) only [hA, OK, emaU, Int.reduceToNat, s_bat]) <;> omega))) | (refine CallOK.of (goodF_of F181_ok) (Tri.mono (letterR_ok _ _) fun v hh hx => ?_); (obtain ⟨⟨b, hv, hb⟩, he⟩ := hx; subst hv; subst he; cases b <;> simp (disch := omega) only [hA, OK, emaU, Int.reduceToNat, s_bat, Bool.false_eq_true, true_iff, false_iff, eq_self, reduceCtorEq] at hb) <;> (try (with_reducible exfalso; omega))) | fail
  all_goals try (refine OKs.mask (msk 33 [0, 3]) (ih _ _ ⟨_, rfl, rfl, ?_, ?_, ?_⟩ ?_))
  all_goals (try (with_reducible refine FinR.self ?_; first | refine FinR.bl rfl ?_ | refine FinR.bs rfl ?_ | refine FinR.blh rfl ?_ rfl | refine FinR.bsh rfl ?_ rfl))
  all_goals (try simp (disch := omega) only [hA, OK, emaU, Int.reduceToNat, s_bat, Bool.false_eq_true, true_iff, false_iff, eq_self, iff_true, iff_false])
  all_goals first
    | omega
    | exact nameP_letter (by omega) hb
    | exact allP_step hi1 hi3 hb
    | exact ⟨by omega, by omega, fun j hj => hi3 j (by omega), by omega⟩
set_option maxHeartbeats 2000000 in
theorem named_ok (s : ByteArray) (hs : s.size ≤ 140737488351232) (h : EH) : Tri Tryz.prog gs 114 [.lit (.string s)] h fun v h' => IsP (nameP s) v ∧ h' = h := by
  refine Tri.boolC rfl (Tri_of F114_ok fun I0 ρ0 w0 Q hρ hQ => ?_) h
  obtain ⟨A, hA⟩ : ∃ A, A = stdA := ⟨_, rfl⟩
  with_reducible refine runS hA hd hQ 200 ?hk ?_
  case hk => exact trivial
  conv => arg 9; cbv
  try simp only [OK]
  repeat' first | (with_reducible refine OKK.loop ?_) | (with_reducible refine OKK.again ?_) | ((with_reducible refine ⟨fun hbr => ?_, fun hbr => ?_⟩) <;> (try simp (disch := omega) only [hA, OK, emaU, Int.reduceToNat, s_bat, reduceCtorEq] at hbr) <;> (try (with_reducible exfalso; omega))) | ((with_reducible refine runK hA hd hQ 200 ?hk ?_); (case hk => exact trivial); (conv => arg 9; cbv); (try simp only [OK])) | ((with_reducible refine need_of ?hn ?_); (case hn => ((simp (disch := omega) only [hA, OK, emaU, Int.reduceToNat, s_bat]) <;> omega))) | fail
  refine OKs.mask (msk 36 [0, 6, 7]) ?_
  refine OKs.loopN (fun n st => ∃ i : Int, st = ⟨mkT 36 [(0, .lit (.string s)), (6, .lit (.int .i64 (A.ofn (A.bsz s)))), (7, .lit (.int .i64 i))], []⟩ ∧ n = (s.size - i).toNat ∧ 0 ≤ i ∧ i ≤ s.size ∧ (∀ j, j < i.toNat → letP (bs s j)) ∧ (0 < i → ¬ (48 ≤ bs s 0 ∧ bs s 0 ≤ 57))) (fun n st hs' ih => ?_) ⟨0, rfl, rfl, by omega, by omega, fun j hj => absurd hj (by simp), by omega⟩
  obtain ⟨i, rfl, hn, hi1, hi2, hi3, hi4⟩ := hs'
  with_reducible refine runS hA hd hQ 200 ?hk ?_
  case hk => exact trivial
  conv => arg 9; cbv
  try simp only [OK]
  repeat' first | (with_reducible refine OKK.loop ?_) | (with_reducible refine OKK.again ?_) | ((with_reducible refine ⟨fun hbr => ?_, fun hbr => ?_⟩) <;> (try simp (disch := omega) only [hA, OK, emaU, Int.reduceToNat, s_bat, reduceCtorEq] at hbr) <;> (try (with_reducible exfalso; omega))) | ((with_reducible refine runK hA hd hQ 200 ?hk ?_); (case hk => exact trivial); (conv => arg 9; cbv); (try simp only [OK])) | ((with_reducible refine need_of ?hn ?_); (case hn => ((simp (disch := omega) only [hA, OK, emaU, Int.reduceToNat, s_bat]) <;> omega))) | (refine CallOK.of (goodF_of F155_ok) (Tri.mono (letter_ok _ _) fun v hh hx => ?_); (obtain ⟨⟨b, hv, hb⟩, he⟩ := hx; subst hv; subst he; cases b <;> simp (disch := omega) only [hA, OK, emaU, Int.reduceToNat, s_bat, Bool.false_eq_true, true_iff, false_iff, eq_self, reduceCtorEq] at hb) <;> (try (with_reducible exfalso; omega))) | fail
  all_goals try (refine OKs.mask (msk 36 [0, 6, 7]) (ih _ _ ⟨_, rfl, rfl, ?_, ?_, ?_, ?_⟩ ?_))
  all_goals (try (with_reducible refine FinR.self ?_; first | refine FinR.bl rfl ?_ | refine FinR.bs rfl ?_ | refine FinR.blh rfl ?_ rfl | refine FinR.bsh rfl ?_ rfl))
  all_goals (try simp (disch := omega) only [hA, OK, emaU, Int.reduceToNat, s_bat, Bool.false_eq_true, true_iff, false_iff, eq_self, iff_true, iff_false])
  all_goals first
    | omega
    | exact nameP_letter (by omega) hb
    | exact allP_step hi1 hi3 hb
    | (have e0 : i = 0 := by assumption
       subst e0; simp only [Int.reduceToNat] at *
       first | exact fun hnp => hnp.2.2.2 ⟨by omega, by omega⟩ | omega)
    | (have h0 : s.size ≠ 0 := fun e => hbr ((emp_iff s).2 e)
       exact ⟨fun h1 => ⟨by omega, by omega, fun j hj => hi3 j (by omega), hi4 (by omega)⟩, fun hnp => by have := hnp.2.1; omega⟩)
    | (have h0 : s.size = 0 := (emp_iff s).1 (Classical.byContradiction hbr)
       exact fun hnp : nameP s => by have := hnp.1; omega)
theorem say_look (x : Int) (h : 1 ≤ x ∧ x ≤ 20) : ((gs.getD 1 []).drop (x.toNat * 4 + 3)).take 1 = [.lit (.bool (decide (3 ≤ x ∧ x ≤ 10)))] := by
  have : x = 1 ∨ x = 2 ∨ x = 3 ∨ x = 4 ∨ x = 5 ∨ x = 6 ∨ x = 7 ∨ x = 8 ∨ x = 9 ∨ x = 10 ∨ x = 11 ∨ x = 12 ∨ x = 13 ∨ x = 14 ∨ x = 15 ∨ x = 16 ∨ x = 17 ∨ x = 18 ∨ x = 19 ∨ x = 20 := by omega
  rcases this with rfl | rfl | rfl | rfl | rfl | rfl | rfl | rfl | rfl | rfl | rfl | rfl | rfl | rfl | rfl | rfl | rfl | rfl | rfl | rfl <;> rfl
set_option maxHeartbeats 4000000 in
theorem fits_ok (k w i x : Int) (n : Nat) (c : List EV) (h : EH) (hn : n ≤ 140737488351232) (hc : clL c = true) :
    Tri Tryz.prog gs 117 [.agg [.lit (.int .i64 k), .lit (.int .i64 w), .lit (.int .i64 i), .lit (.int .i64 x), .isl n none c]] h fun v h' => IsP (fitsP k w i x n) v ∧ h' = h := by
  refine Tri.boolC (by simp [clL, clE, hc]) (Tri_of F117_ok fun I0 ρ0 w0 Q hρ hQ => ?_) h
  obtain ⟨A, hA⟩ : ∃ A, A = stdA := ⟨_, rfl⟩
  obtain ⟨b, hb0⟩ : ∃ b, b = decide (3 ≤ x ∧ x ≤ 10) := ⟨_, rfl⟩
  have L : 1 ≤ x ∧ x ≤ 20 → ((gs.getD 1 []).drop (A.add (A.idx 0 x 4) 3)).take 1 = [.lit (.bool b)] := fun hx => by
    rw [hA, hb0, ← say_look x hx]; simp only [s_addN, s_idx, Nat.zero_add]
  cases b
  all_goals
    with_reducible refine runS hA hd hQ 300 ?hk ?_
    case hk => exact trivial
    conv => arg 9; cbv
    try simp only [OK]
    repeat' first | ((with_reducible refine ⟨fun hbr => ?_, fun hbr => ?_⟩) <;> (try simp (disch := omega) only [hA, OK, emaU, Int.reduceToNat, s_bat, reduceCtorEq] at hbr) <;> (try (with_reducible exfalso; omega))) | ((with_reducible refine runK hA hd hQ 300 ?hk ?_); (case hk => exact trivial); (conv => arg 9; cbv); (try simp only [OK])) | ((with_reducible refine need_of ?hn ?_); (case hn => ((simp (disch := omega) only [hA, OK, emaU, Int.reduceToNat, s_bat]) <;> omega))) | ((refine ⟨_, _, ?l1, (L (by omega)), rfl, ?_⟩); (case l1 => exact rfl)) | (refine CallOK.of (goodF_of F157_ok) (Tri.mono (known_ok _ _) fun v hh hx => ?_); (obtain ⟨⟨b, hv, hb⟩, he⟩ := hx; subst hv; subst he; cases b <;> simp (disch := omega) only [hA, OK, emaU, Int.reduceToNat, s_bat, Bool.false_eq_true, true_iff, false_iff, eq_self, reduceCtorEq] at hb) <;> (try (with_reducible exfalso; omega))) | fail
  all_goals (try (with_reducible refine FinR.self ?_; first | refine FinR.bl rfl ?_ | refine FinR.bs rfl ?_ | refine FinR.blh rfl ?_ rfl | refine FinR.bsh rfl ?_ rfl))
  all_goals (try simp (disch := omega) only [hA, OK, emaU, Int.reduceToNat, s_bat, Bool.false_eq_true, true_iff, false_iff, eq_self, iff_true, iff_false])
  all_goals simp only [Bool.false_eq, Bool.true_eq, decide_eq_false_iff_not, decide_eq_true_eq, eq_comm (a := false), eq_comm (a := true)] at hb0
  all_goals unfold fitsP
  all_goals (repeat' split)
  all_goals omega
-- emaX: s_bat
def fld0 : Fld := .mk ⟨#[]⟩ false 0 0 0 0 []
theorem fs_get : ∀ (l : List Fld) (i : Nat), i < l.length → ((cellsFs l).drop (i * 7)).take 7 = cellsF (l.getD i fld0)
  | [], i, h => by simp at h
  | f :: l, 0, _ => by
    simp only [cellsFs, Nat.zero_mul, List.drop_zero, List.getD_cons_zero]
    rw [List.take_append_of_le_length (by rw [cellsF_length]; omega), List.take_of_length_le (by rw [cellsF_length]; omega)]
  | f :: l, i + 1, h => by
    have ih := fs_get l i (by simpa using h)
    rw [cellsFs, List.drop_append, List.drop_eq_nil_of_le (by rw [cellsF_length]; omega), cellsF_length, List.nil_append, show (i + 1) * 7 - 7 = i * 7 by omega, ih]
    rfl
theorem fs_app (l m : List Fld) : cellsFs (l ++ m) = cellsFs l ++ cellsFs m := by
  induction l with
  | nil => rfl
  | cons f l ih => simp [cellsFs, ih]
theorem fs_get1 {l m : List Fld} {c : List EV} (hc : c = cellsFs (l ++ m)) (i : Nat) (h : i < l.length) : (c.drop (i * 7)).take 7 = cellsF (l.getD i fld0) := by
  subst hc
  rw [fs_get _ _ (by simp; omega)]
  simp [List.getD_eq_getElem?_getD, List.getElem?_append_left h]
theorem cellsF_eq (f : Fld) : cellsF f = [.lit (.string f.nm), .lit (.bool f.nul), .lit (.int .i64 f.kind), .lit (.int .i64 f.width), .lit (.int .i64 f.id), .lit (.int .i64 f.idx), .isl f.kids.length none (cellsFs f.kids)] := by cases f; rfl
set_option maxHeartbeats 1000000 in
theorem wrong1_ok (g : Fld) (pe ae : EV) (nm : ByteArray) (b : EV) (k w i x : EV) (kids d : EV) (h : EH) :
    Tri Tryz.prog gs 116 [.agg (cellsF g), .iptr [pe, ae, .lit (.string nm), b, k, w, i, x, kids, d] 0] h fun v h' => IsP (g.nm = nm) v ∧ h' = h := by
  rw [cellsF_eq]
  generalize cellsFs g.kids = kc, g.kids.length = kn, g.nm = gn, g.nul = gb, g.kind = gk, g.width = gw, g.id = gi, g.idx = gx
  refine Tri.boolC (by simp [clL, clE]) (Tri_of F116_ok fun I0 ρ0 w0 Q hρ hQ => ?_) h
  obtain ⟨A, hA⟩ : ∃ A, A = stdA := ⟨_, rfl⟩
  have L : List.take 1 (List.drop (A.add (A.add 0 2) 0) [pe, ae, .lit (.string nm), b, k, w, i, x, kids, d]) = [.lit (.string nm)] := by rw [hA]; rfl
  with_reducible refine runS hA hd hQ 200 ?hk ?_
  case hk => exact trivial
  conv => arg 9; cbv
  try simp only [OK]
  repeat' first | ((with_reducible refine ⟨fun hbr => ?_, fun hbr => ?_⟩) <;> (try simp (disch := omega) only [hA, OK, emaU, Int.reduceToNat, s_bat, reduceCtorEq] at hbr) <;> (try (with_reducible exfalso; omega))) | ((with_reducible refine runK hA hd hQ 200 ?hk ?_); (case hk => exact trivial); (conv => arg 9; cbv); (try simp only [OK])) | ((with_reducible refine need_of ?hn ?_); (case hn => ((simp (disch := omega) only [hA, OK, emaU, Int.reduceToNat, s_bat]) <;> omega))) | ((refine ⟨_, _, ?l1, L, rfl, ?_⟩); (case l1 => exact rfl)) | fail
  all_goals (try (with_reducible refine FinR.self ?_; first | refine FinR.bl rfl ?_ | refine FinR.bs rfl ?_ | refine FinR.blh rfl ?_ rfl | refine FinR.bsh rfl ?_ rfl))
  all_goals (try simp (disch := omega) only [hA, OK, emaU, Int.reduceToNat, s_bat, Bool.false_eq_true, true_iff, false_iff, eq_self, iff_true, iff_false])
set_option maxHeartbeats 2000000 in
theorem indexFunc_ok (l m : List Fld) (hl : l.length ≤ 140737488351232) (pe ae : EV) (nm : ByteArray) (b : EV) (k w i x : EV) (kids d : EV) (h : EH) :
    Tri Tryz.prog gs 156 [.isl l.length none (cellsFs (l ++ m)), .fn (.func 116) [] [.iptr [pe, ae, .lit (.string nm), b, k, w, i, x, kids, d] 0]] h
      fun v h' => IsN .i64 (fun n => 0 ≤ n ↔ ∃ g, g ∈ l ∧ g.nm = nm) v ∧ h' = h := by
  refine Tri.intC (by simp [clL, clE]) (Tri_of F156_ok fun I0 ρ0 w0 Q hρ hQ => ?_) h
  obtain ⟨A, hA⟩ : ∃ A, A = stdA := ⟨_, rfl⟩
  obtain ⟨n0, hn0⟩ : ∃ n, n = l.length := ⟨_, rfl⟩
  obtain ⟨c, hc⟩ : ∃ c, c = cellsFs (l ++ m) := ⟨_, rfl⟩
  rw [← hn0, ← hc]
  obtain ⟨F, hF⟩ : ∃ F, F = EV.fn (.func 116) [] [.iptr [pe, ae, .lit (.string nm), b, k, w, i, x, kids, d] 0] := ⟨_, rfl⟩
  rw [← hF]
  with_reducible refine runS hA hd hQ 200 ?hk ?_
  case hk => exact trivial
  conv => arg 9; cbv
  try simp only [OK]
  repeat' first | (with_reducible refine OKK.loop ?_) | (with_reducible refine OKK.again ?_) | ((with_reducible refine ⟨fun hbr => ?_, fun hbr => ?_⟩) <;> (try simp (disch := omega) only [hA, OK, emaU, Int.reduceToNat, s_bat, reduceCtorEq] at hbr) <;> (try (with_reducible exfalso; omega))) | ((with_reducible refine runK hA hd hQ 200 ?hk ?_); (case hk => exact trivial); (conv => arg 9; cbv); (try simp only [OK])) | ((with_reducible refine need_of ?hn ?_); (case hn => ((simp (disch := omega) only [hA, OK, emaU, Int.reduceToNat, s_bat]) <;> omega))) | fail
  refine OKs.mask (msk 19 [0, 1, 7, 8]) ?_
  refine OKs.loopN (fun n st => ∃ z : Int, st = ⟨mkT 19 [(0, .isl n0 none c), (1, F), (7, .lit (.int .i64 (A.ofn n0))), (8, .lit (.int .i64 z))], []⟩ ∧ n = (n0 - z).toNat ∧ 0 ≤ z ∧ z ≤ n0 ∧ ∀ j, j < z.toNat → (l.getD j fld0).nm ≠ nm) (fun n st hs' ih => ?_) ⟨0, rfl, rfl, by omega, by omega, fun j hj => absurd hj (by simp)⟩
  obtain ⟨z, rfl, hn, hz1, hz2, hz3⟩ := hs'
  subst hF
  obtain ⟨g, hg⟩ : ∃ g, g = l.getD z.toNat fld0 := ⟨_, rfl⟩
  have hw := wrong1_ok g pe ae nm b k w i x kids d
  have L : z < n0 → List.take 7 (List.drop (A.idx 0 z 7) c) = cellsF g := fun hz => by
    rw [hA, hg, ← fs_get1 hc _ (by omega)]; simp only [s_idx, Nat.zero_add]
  rw [cellsF_eq] at L hw
  have hmem : z < n0 → g ∈ l := fun hz => by rw [hg, List.getD_eq_getElem?_getD, List.getElem?_eq_getElem (by omega)]; exact List.getElem_mem _
  generalize cellsFs g.kids = kc, g.kids.length = kn, g.nul = gb, g.kind = gk, g.width = gw, g.id = gi, g.idx = gx at L hw
  obtain ⟨gn, hgn⟩ : ∃ gn, gn = g.nm := ⟨_, rfl⟩
  rw [← hgn] at L hw
  with_reducible refine runS hA hd hQ 200 ?hk ?_
  case hk => exact trivial
  conv => arg 9; cbv
  try simp only [OK]
  repeat' first | (with_reducible refine OKK.loop ?_) | (with_reducible refine OKK.again ?_) | ((with_reducible refine ⟨fun hbr => ?_, fun hbr => ?_⟩) <;> (try simp (disch := omega) only [hA, OK, emaU, Int.reduceToNat, s_bat, reduceCtorEq] at hbr) <;> (try (with_reducible exfalso; omega))) | ((with_reducible refine runK hA hd hQ 200 ?hk ?_); (case hk => exact trivial); (conv => arg 9; cbv); (try simp only [OK])) | ((with_reducible refine need_of ?hn ?_); (case hn => ((simp (disch := omega) only [hA, OK, emaU, Int.reduceToNat, s_bat]) <;> omega))) | ((refine ⟨_, _, ?l1, (L (by omega)), rfl, ?_⟩); (case l1 => exact rfl)) | (refine CallOK.of (goodF_of F116_ok) (Tri.mono (hw _) fun v hh hx => ?_); (obtain ⟨⟨b, hv, hb⟩, he⟩ := hx; subst hv; subst he; cases b <;> simp (disch := omega) only [hA, OK, emaU, Int.reduceToNat, s_bat, Bool.false_eq_true, true_iff, false_iff, eq_self, reduceCtorEq] at hb) <;> (try (with_reducible exfalso; omega))) | fail
  all_goals try (refine OKs.mask (msk 19 [0, 1, 7, 8]) (ih _ _ ⟨_, rfl, rfl, ?_, ?_, ?_⟩ ?_))
  all_goals (try (with_reducible refine FinR.self ?_; first | refine FinR.n rfl ?_ | refine FinR.nh rfl ?_ rfl))
  all_goals (try simp (disch := omega) only [hA, OK, emaU, Int.reduceToNat, s_bat, Bool.false_eq_true, true_iff, false_iff, eq_self, iff_true, iff_false])
  all_goals first
    | omega
    | exact allP_step hz1 hz3 (by rw [← hg, ← hgn]; exact hb)
    | exact ⟨fun _ => ⟨g, hmem (by assumption), by rw [← hgn]; exact hb⟩, fun _ => hz1⟩
    | exact ⟨fun h => by omega, fun ⟨f, hf, e⟩ => by
        obtain ⟨j, hj, rfl⟩ := List.getElem_of_mem hf
        exact absurd e (by have := hz3 j (by omega); rwa [List.getD_eq_getElem?_getD, List.getElem?_eq_getElem hj] at this)⟩
set_option maxHeartbeats 2000000 in
theorem containsFunc_ok (l m : List Fld) (hl : l.length ≤ 140737488351232) (pe ae : EV) (nm : ByteArray) (b : EV) (k w i x : EV) (kids d : EV) (h : EH) :
    Tri Tryz.prog gs 115 [.isl l.length none (cellsFs (l ++ m)), .fn (.func 116) [] [.iptr [pe, ae, .lit (.string nm), b, k, w, i, x, kids, d] 0]] h
      fun v h' => IsP (∃ g, g ∈ l ∧ g.nm = nm) v ∧ h' = h := by
  refine Tri.boolC (by simp [clL, clE]) (Tri_of F115_ok fun I0 ρ0 w0 Q hρ hQ => ?_) h
  obtain ⟨A, hA⟩ : ∃ A, A = stdA := ⟨_, rfl⟩
  have hw := indexFunc_ok l m hl pe ae nm b k w i x kids d
  generalize cellsFs (l ++ m) = c, l.length = n0 at hw
  with_reducible refine runS hA hd hQ 200 ?hk ?_
  case hk => exact trivial
  conv => arg 9; cbv
  try simp only [OK]
  repeat' first | ((with_reducible refine ⟨fun hbr => ?_, fun hbr => ?_⟩) <;> (try simp (disch := omega) only [hA, OK, emaU, Int.reduceToNat, s_bat, reduceCtorEq] at hbr) <;> (try (with_reducible exfalso; omega))) | ((with_reducible refine runK hA hd hQ 200 ?hk ?_); (case hk => exact trivial); (conv => arg 9; cbv); (try simp only [OK])) | ((with_reducible refine need_of ?hn ?_); (case hn => ((simp (disch := omega) only [hA, OK, emaU, Int.reduceToNat, s_bat]) <;> omega))) | (refine CallOK.of (goodF_of F156_ok) (Tri.mono (hw _) fun v hh hx => ?_); (obtain ⟨⟨z, hv, hz⟩, he⟩ := hx; subst hv; subst he)) | fail
  all_goals (try (with_reducible refine FinR.self ?_; first | refine FinR.bl rfl ?_ | refine FinR.bs rfl ?_ | refine FinR.blh rfl ?_ rfl | refine FinR.bsh rfl ?_ rfl))
  all_goals (try simp (disch := omega) only [hA, OK, emaU, Int.reduceToNat, s_bat, Bool.false_eq_true, true_iff, false_iff, eq_self, iff_true, iff_false])
  all_goals exact hz
-- emaX: s_bat
def cellsP (pc : List EV) (rest : List Fld) (p : Pl) : List EV :=
  [.isl p.path.length none pc, .isl p.ahead.length none (cellsFs (p.ahead ++ rest)), .lit (.string p.f.nm), .lit (.bool p.f.nul), .lit (.int .i64 p.f.kind), .lit (.int .i64 p.f.width), .lit (.int .i64 p.f.id), .lit (.int .i64 p.f.idx),
    .isl p.f.kids.length none (cellsFs p.f.kids), .sb p.inD]
def IdsOf (idm : List (Int × Int)) (prev : List Pl) : Prop := ∀ a, (∃ q, q ∈ idm ∧ q.1 = a) ↔ ∃ o, o ∈ prev ∧ o.f.kind = 19 ∧ o.f.id = a
theorem some_none {α : Type} {o : Option α} {x : α} (h : o = some x) (k : o = none) : False := by rw [h] at k; cases k
theorem nm_mk (nm nul k w i x kids) : (Fld.mk nm nul k w i x kids).nm = nm := rfl
theorem nul_mk (nm nul k w i x kids) : (Fld.mk nm nul k w i x kids).nul = nul := rfl
theorem kind_mk (nm nul k w i x kids) : (Fld.mk nm nul k w i x kids).kind = k := rfl
theorem width_mk (nm nul k w i x kids) : (Fld.mk nm nul k w i x kids).width = w := rfl
theorem id_mk (nm nul k w i x kids) : (Fld.mk nm nul k w i x kids).id = i := rfl
theorem idx_mk (nm nul k w i x kids) : (Fld.mk nm nul k w i x kids).idx = x := rfl
theorem kids_mk (nm nul k w i x kids) : (Fld.mk nm nul k w i x kids).kids = kids := rfl
theorem kid0_look (l : List Fld) (h : 0 < l.length) : ((cellsFs l).drop 1).take 1 = [.lit (.bool (kid0 l))] := by
  match l, h with
  | f :: l, _ => exact kid_look f l rfl
set_option maxRecDepth 100000 in
set_option maxHeartbeats 8000000 in
theorem wrong_ok (p : Pl) (pc : List EV) (rest : List Fld) (prev : List Pl) (idm : List (Int × Int)) (hpc : clL pc = true) (hpl : p.path.length ≤ 65) (hal : p.ahead.length ≤ 140737488351232) (hok : okF p.f) (hprev : prev.length ≤ 256) (hids : IdsOf idm prev) :
    Tri Tryz.prog gs 82 [.agg (cellsP pc rest p), .lit (.int .i64 prev.length), .mp 0] [.emap (imE idm)] fun v h' => IsN .i64 (fun n => n = 0 ↔ prev.length < 256 ∧ okN prev p) v ∧ h' = [.emap (imE idm)] := by
  refine Tri.trimN (fun l => by simp [mvH, sizeH, mvO, mvM_im, getH, inL, List.range, List.range.loop]) ?_
  refine Tri_of F82_ok fun I0 ρ0 w0 Q hρ hQ => ?_
  obtain ⟨A, hA⟩ : ∃ A, A = stdA := ⟨_, rfl⟩
  obtain ⟨path, ahead, f, inD⟩ := p
  obtain ⟨nm, nul, k, w, i, x, kids⟩ := f
  simp only [okN, cellsP, nm_mk, nul_mk, kind_mk, width_mk, id_mk, idx_mk, kids_mk, okF] at *
  have hn := named_ok nm hok.1
  have hc := fun pe kc => containsFunc_ok ahead rest hal pe (.isl ahead.length none (cellsFs (ahead ++ rest))) nm (.lit (.bool nul)) (.lit (.int .i64 k)) (.lit (.int .i64 w)) (.lit (.int .i64 i)) (.lit (.int .i64 x)) kc (.sb inD)
  have hf := fits_ok k w i x kids.length (cellsFs kids)
  have hu := fun hf h => nulls_ok nm nul k w i x kids h hf
  have hkn : kids.length ≤ 140737488351232 := hok.2.2.2.2.2.1
  have hkk := kid0_look kids
  obtain ⟨kb, hkb⟩ : ∃ b, b = kid0 kids := ⟨_, rfl⟩
  have hfx : fitsP k w i x kids.length → k = 19 → 0 < kids.length := fun h h19 => by
    obtain ⟨_, _, h⟩ := h
    subst h19
    simp at h
    omega
  simp only [cellsF] at hu
  have hkcl := clFs kids
  rw [← hkb] at hkk
  have hid : ∀ a, (∃ q, q ∈ idm ∧ q.1 = a) ↔ ∃ o, o ∈ prev ∧ o.f.kind = 19 ∧ o.f.id = a := hids
  generalize cellsFs kids = kc at *
  generalize hkn0 : kids.length = kn at *
  generalize cellsFs (ahead ++ rest) = ac at *
  generalize ahead.length = an at *
  generalize hpn : path.length = pn at *
  obtain ⟨cnt, hcnt⟩ : ∃ n : Int, n = prev.length := ⟨_, rfl⟩
  rw [← hcnt]
  have hkey : stdA.keyed 0 (imE idm) (.lit (.int .i64 i)) = true := im_keyed _ _
  have hno : stdA.find (imE idm) (.lit (.int .i64 i)) = none ↔ ¬ ∃ o, o ∈ prev ∧ o.f.kind = 19 ∧ o.f.id = i := by rw [im_none, hid]
  obtain ⟨ie, hie⟩ : ∃ e, e = imE idm := ⟨_, rfl⟩
  rw [← hie] at hkey hno hQ ⊢
  have hL : fitsP k w i x kn → k = 19 → List.take 1 (List.drop (A.add (A.idx 0 0 7) 1) kc) = [.lit (.bool kb)] := fun h1 h2 => by rw [hA]; exact hkk (hfx h1 h2)
  cases kb
  all_goals
    with_reducible refine runS hA hd hQ 300 ?hk ?_
    case hk => exact trivial
    conv => arg 9; cbv
    try simp only [OK]
    repeat' first | ((with_reducible refine opt_of (fun hop => ?_) (fun xop hop => ?_)) <;> (try simp (disch := omega) only [hA, OK, emaU, Int.reduceToNat, s_bat , hkey, hno, reduceCtorEq] at hop)) | ((with_reducible refine ⟨fun hbr => ?_, fun hbr => ?_⟩) <;> (try simp (disch := omega) only [hA, OK, emaU, Int.reduceToNat, s_bat, reduceCtorEq , hkey, hno, reduceCtorEq] at hbr) <;> (try (with_reducible exfalso; omega))) | ((with_reducible refine runK hA hd hQ 300 ?hk ?_); (case hk => exact trivial); (conv => arg 9; cbv); (try simp only [OK])) | ((with_reducible refine need_of ?hn ?_); (case hn => ((simp (disch := omega) only [hA, OK, emaU, Int.reduceToNat, s_bat , hkey, hno, reduceCtorEq]) <;> omega))) | ((refine ⟨_, _, ?l1, (hL (by assumption) (by assumption)), rfl, ?_⟩); (case l1 => exact rfl)) | ((with_reducible refine need_of ?hn ?_); (case hn => (have hneed := hfx (by assumption) (by assumption); (simp (disch := omega) only [hA, OK, emaU, Int.reduceToNat, s_bat , hkey, hno, reduceCtorEq]) <;> omega))) | (refine CallOK.of (goodF_of F114_ok) (Tri.mono (hn _) fun v hh hx => ?_); (obtain ⟨⟨b, hv, hb⟩, he⟩ := hx; subst hv; subst he; cases b <;> simp (disch := omega) only [hA, OK, emaU, Int.reduceToNat, s_bat, Bool.false_eq_true, true_iff, false_iff, eq_self, reduceCtorEq , hkey, hno, reduceCtorEq] at hb) <;> (try (with_reducible exfalso; omega))) | (refine CallOK.of (goodF_of F115_ok) (Tri.mono (Tri.lendB [1] (fun id hid => by simp at hid; subst hid; exact ⟨_, rfl, by simp [clL, clE]⟩) rfl (hc _ _ [])) fun v hh hx => ?_); (obtain ⟨⟨b, hv, hb⟩, he⟩ := hx; subst hv; subst he; cases b <;> simp (disch := omega) only [hA, OK, emaU, Int.reduceToNat, s_bat, Bool.false_eq_true, true_iff, false_iff, eq_self, reduceCtorEq , hkey, hno, reduceCtorEq] at hb) <;> (try (with_reducible exfalso; omega))) | (refine CallOK.of (goodF_of F117_ok) (Tri.mono (hf _ hkn hkcl) fun v hh hx => ?_); (obtain ⟨⟨b, hv, hb⟩, he⟩ := hx; subst hv; subst he; cases b <;> simp (disch := omega) only [hA, OK, emaU, Int.reduceToNat, s_bat, Bool.false_eq_true, true_iff, false_iff, eq_self, reduceCtorEq , hkey, hno, reduceCtorEq] at hb) <;> (try (with_reducible exfalso; omega))) | (refine CallOK.of (goodF_of F118_ok) (Tri.mono (hu (by assumption) _) fun v hh hx => ?_); (obtain ⟨⟨b, hv, hb⟩, he⟩ := hx; subst hv; subst he; cases b <;> simp (disch := omega) only [hA, OK, emaU, Int.reduceToNat, s_bat, Bool.false_eq_true, true_iff, false_iff, eq_self, reduceCtorEq , hkey, hno, reduceCtorEq] at hb) <;> (try (with_reducible exfalso; omega))) | fail
  all_goals (try (with_reducible refine FinR.self ?_; first | refine FinR.n rfl ?_ | refine FinR.nh rfl ?_ rfl))
  all_goals (try simp (disch := omega) only [hA, OK, emaU, Int.reduceToNat, s_bat, Bool.false_eq_true, true_iff, false_iff, eq_self, iff_true, iff_false])
  all_goals try (have hex : ∃ o, o ∈ prev ∧ o.f.kind = 19 ∧ o.f.id = i := Classical.not_not.1 fun hn' => some_none hop (hno.2 hn'))
  all_goals first
    | exact ⟨fun h => absurd h (by decide), fun ⟨h1, h2, h3, h4, h5, h6, h7, h8⟩ => by
        exfalso
        first
          | omega
          | contradiction
          | exact (by assumption : ∃ g, g ∈ ahead ∧ g.nm = nm).elim fun g hg => h4 g hg.1 hg.2
          | exact h7 ⟨by assumption, by omega⟩
          | exact h8 ⟨by assumption, .inl hkb.symm⟩
          | exact h8 ⟨by assumption, .inr hex⟩⟩
    | (refine ⟨by omega, by omega, by assumption, fun g hg e => (by assumption : ¬ ∃ g, g ∈ ahead ∧ g.nm = nm) ⟨g, hg, e⟩, by assumption, by assumption, ?_, ?_⟩ <;>
        first
          | exact fun h => Bool.noConfusion (h.1.symm.trans (by assumption))
          | exact fun h => by omega
          | exact fun h => h.2.elim (fun e => nomatch hkb.trans e) (by assumption)
          | omega)
-- emaX: s_bat
structure Nd where
  p : Pl
  cap : Option Nat
  pc : List EV
  rest : List Fld
def cellsD (d : Nd) : List EV :=
  [.isl d.p.path.length d.cap d.pc, .lit (.string d.p.f.nm), .lit (.bool d.p.f.nul), .lit (.int .i64 d.p.f.kind), .lit (.int .i64 d.p.f.width), .lit (.int .i64 d.p.f.id), .lit (.int .i64 d.p.f.idx),
    .isl d.p.f.kids.length none (cellsFs d.p.f.kids), .isl d.p.ahead.length none (cellsFs (d.p.ahead ++ d.rest)), .sb d.p.inD]
def cellsDs : List Nd → List EV
  | [] => []
  | d :: l => cellsD d ++ cellsDs l
def nd0 : Nd := ⟨⟨[], [], fld0, false⟩, none, [], []⟩
def okD (d : Nd) : Prop := d.p.path.length ≤ 65 ∧ d.p.ahead.length ≤ 140737488351232 ∧ okF d.p.f
theorem cellsD_length (d : Nd) : (cellsD d).length = 10 := rfl
theorem ds_length : ∀ l : List Nd, (cellsDs l).length = 10 * l.length
  | [] => rfl
  | f :: l => by simp only [cellsDs, List.length_append, cellsD_length, ds_length l, List.length_cons]; omega
theorem ds_get : ∀ (l : List Nd) (i : Nat), i < l.length → ((cellsDs l).drop (i * 10)).take 10 = cellsD (l.getD i nd0)
  | [], i, h => by simp at h
  | f :: l, 0, _ => by
    simp only [cellsDs, Nat.zero_mul, List.drop_zero, List.getD_cons_zero]
    rw [List.take_append_of_le_length (by rw [cellsD_length]; omega), List.take_of_length_le (by rw [cellsD_length]; omega)]
  | f :: l, i + 1, h => by
    have ih := ds_get l i (by simpa using h)
    rw [cellsDs, List.drop_append, List.drop_eq_nil_of_le (by rw [cellsD_length]; omega), cellsD_length, List.nil_append, show (i + 1) * 10 - 10 = i * 10 by omega, ih]
    rfl
theorem all_of {l : List Fld} {q : Fld → Prop} {n : Nat} (hn : l.length ≤ n) (h : ∀ j, j < n → q (l.getD j fld0)) (g : Fld) (hg : g ∈ l) : q g := by
  obtain ⟨j, hj, rfl⟩ := List.getElem_of_mem hg
  have := h j (by omega)
  rwa [List.getD_eq_getElem?_getD, List.getElem?_eq_getElem hj] at this
theorem none_of {l : List Nd} {i : Int} {m n : Nat} (hn : m ≤ n) (h : ∀ j, j < n → ¬ ((l.getD j nd0).p.f.kind = 19 ∧ (l.getD j nd0).p.f.id = i)) : ¬ ∃ o, o ∈ (l.take m).map Nd.p ∧ o.f.kind = 19 ∧ o.f.id = i := by
  rintro ⟨o, ho, h1, h2⟩
  obtain ⟨d, hd, rfl⟩ := List.mem_map.1 ho
  obtain ⟨j, hj, rfl⟩ := List.mem_take_iff_getElem.1 hd
  have := h j (by omega)
  rw [List.getD_eq_getElem?_getD, List.getElem?_eq_getElem (by omega)] at this
  exact this ⟨h1, h2⟩
set_option maxRecDepth 100000 in
set_option maxHeartbeats 8000000 in
theorem wrongR_ok (ds : List Nd) (m : Nat) (hm : m < ds.length) (hds : ds.length ≤ 257) (hok : ∀ d ∈ ds, okD d) (h : EH) :
    Tri Tryz.prog gs 100 [.isl ds.length none (cellsDs ds), .lit (.int .i64 m)] h fun v h' => IsN .i64 (fun n => n = 0 ↔ m < 256 ∧ okN ((ds.take m).map Nd.p) (ds.getD m nd0).p) v ∧ h' = h := by
  refine Tri.intC rfl ?_ h
  refine Tri_of F100_ok fun I0 ρ0 w0 Q hρ hQ => ?_
  obtain ⟨A, hA⟩ : ∃ A, A = stdA := ⟨_, rfl⟩
  obtain ⟨c, hc⟩ : ∃ c, c = cellsDs ds := ⟨_, rfl⟩
  obtain ⟨n0, hn0⟩ : ∃ n, n = ds.length := ⟨_, rfl⟩
  obtain ⟨M, hM⟩ : ∃ n : Int, n = m := ⟨_, rfl⟩
  rw [← hc, ← hn0, ← hM]
  have hL := ds_get ds m hm
  have hmem : ds.getD m nd0 ∈ ds := by rw [List.getD_eq_getElem?_getD, List.getElem?_eq_getElem hm]; exact List.getElem_mem _
  have hokd := hok _ hmem
  generalize ds.getD m nd0 = d at *
  obtain ⟨⟨path, ahead, f, inD⟩, cap, pc, rest⟩ := d
  obtain ⟨nm, nul, k, w, i, x, kids⟩ := f
  simp only [okN, okD, cellsD, nm_mk, nul_mk, kind_mk, width_mk, id_mk, idx_mk, kids_mk, okF] at hQ hokd hL
  obtain ⟨ho1, hal, hok1⟩ := hokd
  have hn := isNameR_ok nm hok1.1
  have hf := shaped_ok k w i x kids.length (cellsFs kids)
  have hu := fun hf h => nullsR_ok nm nul k w i x kids h hf
  have hkn : kids.length ≤ 140737488351232 := hok1.2.2.2.2.2.1
  have hkk := kid0_look kids
  obtain ⟨kb, hkb⟩ : ∃ b, b = kid0 kids := ⟨_, rfl⟩
  have hfx : fitsP k w i x kids.length → k = 19 → 0 < kids.length := fun h h19 => by
    obtain ⟨_, _, h⟩ := h
    subst h19
    simp at h
    omega
  simp only [cellsF] at hu
  have hkcl := clFs kids
  rw [← hkb] at hkk hQ
  have hag := fun (z : Int) (hz : 0 ≤ z) (hz2 : z < ahead.length) => (fs_get1 (c := cellsFs (ahead ++ rest)) rfl z.toNat (by omega)).trans (cellsF_eq _)
  have ham := fun (z : Int) (hz : 0 ≤ z) (hz2 : z < ahead.length) => (show ahead.getD z.toNat fld0 ∈ ahead by rw [List.getD_eq_getElem?_getD, List.getElem?_eq_getElem (by omega)]; exact List.getElem_mem _)
  generalize cellsFs kids = kc at *
  generalize hkn0 : kids.length = kn at *
  generalize cellsFs (ahead ++ rest) = ac at *
  generalize han : ahead.length = an at *
  generalize hpn : path.length = pn at *
  have hL1 : List.take 10 (List.drop (A.idx 0 M 10) c) = _ := (show _ = List.take 10 (List.drop (m * 10) (cellsDs ds)) by rw [hA, hc, hM, s_idx, Nat.zero_add, Int.toNat_natCast]).trans hL
  have hLk : fitsP k w i x kn → k = 19 → List.take 1 (List.drop (A.add (A.idx 0 0 7) 1) kc) = [.lit (.bool kb)] := fun h1 h2 => by rw [hA]; exact hkk (hfx h1 h2)
  have hdg : ∀ (z : Int), 0 ≤ z → z < M → List.take 10 (List.drop (A.idx 0 z 10) c) = cellsD (ds.getD z.toNat nd0) := fun z h1 h2 => by
    rw [hA, hc, ← ds_get ds z.toNat (by omega)]; simp only [s_idx, Nat.zero_add]
  cases kb
  all_goals
    with_reducible refine runS hA hd hQ 300 ?hk ?_
    case hk => exact trivial
    conv => arg 9; cbv
    try simp only [OK]
    repeat' first | (with_reducible refine OKK.loop ?_) | (with_reducible refine OKK.again ?_) | ((with_reducible refine ⟨fun hbr => ?_, fun hbr => ?_⟩) <;> (try simp (disch := omega) only [hA, OK, emaU, Int.reduceToNat, s_bat, reduceCtorEq] at hbr) <;> (try (with_reducible exfalso; omega))) | ((with_reducible refine runK hA hd hQ 300 ?hk ?_); (case hk => exact trivial); (conv => arg 9; cbv); (try simp only [OK])) | ((with_reducible refine need_of ?hn ?_); (case hn => ((simp (disch := omega) only [hA, OK, emaU, Int.reduceToNat, s_bat]) <;> omega))) | ((refine ⟨_, _, ?l1, hL1, rfl, ?_⟩); (case l1 => exact rfl)) | (refine CallOK.of (goodF_of F142_ok) (Tri.mono (hn _) fun v hh hx => ?_); (obtain ⟨⟨b, hv, hb⟩, he⟩ := hx; subst hv; subst he; cases b <;> simp (disch := omega) only [hA, OK, emaU, Int.reduceToNat, s_bat, Bool.false_eq_true, true_iff, false_iff, eq_self, reduceCtorEq] at hb) <;> (try (with_reducible exfalso; omega))) | fail
  all_goals try
    refine OKs.mask (msk 95 [0, 1, 5, 6, 28, 29, 30]) ?_
    refine OKs.loopN (fun n st => ∃ z : Int, st = ⟨mkT 95 [(0, .isl n0 none c), (1, .lit (.int .i64 M)), (5, .ptr 0 0), (6, .ptr 1 0), (28, .isl an none ac), (29, .lit (.int .i64 (A.ofn an))), (30, .lit (.int .i64 z))], [.blk [.isl pn cap pc, .lit (.string nm), .lit (.bool nul), .lit (.int .i64 k), .lit (.int .i64 w), .lit (.int .i64 i), .lit (.int .i64 x), .isl kn none kc, .isl an none ac, .sb inD], .blk [.lit (.string nm), .lit (.bool nul), .lit (.int .i64 k), .lit (.int .i64 w), .lit (.int .i64 i), .lit (.int .i64 x), .isl kn none kc]]⟩ ∧ n = (an - z).toNat ∧ 0 ≤ z ∧ z ≤ an ∧ ∀ j, j < z.toNat → (ahead.getD j fld0).nm ≠ nm) (fun n st hs' ih => ?_) ⟨0, rfl, rfl, by omega, by omega, fun j hj => absurd hj (by simp)⟩
    obtain ⟨z, rfl, hnn, hz1, hz2, hz3⟩ := hs'
    obtain ⟨g, hg⟩ : ∃ g, g = ahead.getD z.toNat fld0 := ⟨_, rfl⟩
    have hLg : z < an → List.take 7 (List.drop (A.idx 0 z 7) ac) = _ := fun hz => (show _ = List.take 7 (List.drop (z.toNat * 7) ac) by rw [hA, s_idx, Nat.zero_add]).trans (hag z hz1 (by omega))
    have hgm := fun hz => ham z hz1 hz
    rw [← hg] at hLg hgm
    generalize g.nul = gb, g.kind = gk, g.width = gw, g.id = gi, g.idx = gx, g.kids.length = gl, cellsFs g.kids = gc at hLg
    obtain ⟨gn, hgn⟩ : ∃ gn, gn = g.nm := ⟨_, rfl⟩
    rw [← hgn] at hLg
    with_reducible refine runS hA hd hQ 300 ?hk ?_
    case hk => exact trivial
    conv => arg 9; cbv
    try simp only [OK]
    repeat' first | (with_reducible refine OKK.loop ?_) | (with_reducible refine OKK.again ?_) | ((with_reducible refine ⟨fun hbr => ?_, fun hbr => ?_⟩) <;> (try simp (disch := omega) only [hA, OK, emaU, Int.reduceToNat, s_bat, reduceCtorEq] at hbr) <;> (try (with_reducible exfalso; omega))) | ((with_reducible refine runK hA hd hQ 300 ?hk ?_); (case hk => exact trivial); (conv => arg 9; cbv); (try simp only [OK])) | ((with_reducible refine need_of ?hn ?_); (case hn => ((simp (disch := omega) only [hA, OK, emaU, Int.reduceToNat, s_bat]) <;> omega))) | ((refine ⟨_, _, ?l1, (hLg (by omega)), rfl, ?_⟩); (case l1 => exact rfl)) | ((refine ⟨_, _, ?l1, (hLk (by assumption) (by assumption)), rfl, ?_⟩); (case l1 => exact rfl)) | ((with_reducible refine need_of ?hn ?_); (case hn => (have hneed := hfx (by assumption) (by assumption); (simp (disch := omega) only [hA, OK, emaU, Int.reduceToNat, s_bat]) <;> omega))) | (refine CallOK.of (goodF_of F143_ok) (Tri.mono (hf _ hkn hkcl) fun v hh hx => ?_); (obtain ⟨⟨b, hv, hb⟩, he⟩ := hx; subst hv; subst he; cases b <;> simp (disch := omega) only [hA, OK, emaU, Int.reduceToNat, s_bat, Bool.false_eq_true, true_iff, false_iff, eq_self, reduceCtorEq] at hb) <;> (try (with_reducible exfalso; omega))) | (refine CallOK.of (goodF_of F144_ok) (Tri.mono (hu (by assumption) _) fun v hh hx => ?_); (obtain ⟨⟨b, hv, hb⟩, he⟩ := hx; subst hv; subst he; cases b <;> simp (disch := omega) only [hA, OK, emaU, Int.reduceToNat, s_bat, Bool.false_eq_true, true_iff, false_iff, eq_self, reduceCtorEq] at hb) <;> (try (with_reducible exfalso; omega))) | fail
  all_goals try (refine OKs.mask (msk 95 [0, 1, 5, 6, 28, 29, 30]) (OKs.mv [0, 1] [] (by rw [hρ]; rfl) ⟨by simp, by simp [sizeH], by simp⟩ (ih _ _ ⟨_, rfl, rfl, ?_, ?_, ?_⟩ ?_)))
  all_goals try
    clear ih
    refine OKs.mask (msk 95 [6, 73, 74, 75]) ?_
    refine OKs.loopN (fun n st => ∃ (z : Int) (sn : Nat) (sc : List EV), st = ⟨mkT 95 [(6, .ptr 1 0), (73, .isl sn none sc), (74, .lit (.int .i64 (A.ofn sn))), (75, .lit (.int .i64 z))], [.blk [.isl pn cap pc, .lit (.string nm), .lit (.bool nul), .lit (.int .i64 k), .lit (.int .i64 w), .lit (.int .i64 i), .lit (.int .i64 x), .isl kn none kc, .isl an none ac, .sb inD], .blk [.lit (.string nm), .lit (.bool nul), .lit (.int .i64 k), .lit (.int .i64 w), .lit (.int .i64 i), .lit (.int .i64 x), .isl kn none kc]]⟩ ∧ n = (sn - z).toNat ∧ sn = m ∧ sc = c ∧ 0 ≤ z ∧ z ≤ sn ∧ ∀ j, j < z.toNat → ¬ ((ds.getD j nd0).p.f.kind = 19 ∧ (ds.getD j nd0).p.f.id = i)) (fun n st hs' ih => ?_)
      ⟨0, _, _, rfl, rfl, by simp (disch := omega) only [hA, OK, emaU, Int.reduceToNat, s_bat] <;> omega, by simp (disch := omega) only [hA, OK, emaU, Int.reduceToNat, s_bat] <;> simp, by omega, by simp (disch := omega) only [hA, OK, emaU, Int.reduceToNat, s_bat] <;> omega, fun j hj => absurd hj (by simp)⟩
    obtain ⟨y, sn, sc, rfl, hnn, hsn, rfl, hy1, hy2, hy3⟩ := hs'
    obtain ⟨d, hd'⟩ : ∃ d, d = ds.getD y.toNat nd0 := ⟨_, rfl⟩
    have hdm : y < sn → d ∈ ds.take m := fun hy => by
      rw [hd', List.getD_eq_getElem?_getD, List.getElem?_eq_getElem (by omega)]
      exact List.mem_take_iff_getElem.2 ⟨y.toNat, by omega, rfl⟩
    have hLd : y < sn → List.take 10 (List.drop (A.idx 0 y 10) sc) = _ := fun hy => (hdg y hy1 (by omega)).trans (by rw [← hd'])
    have hst := allP_step hy1 hy3
    rw [← hd'] at hst
    simp only [cellsD] at hLd
    generalize d.p.path.length = dn, d.cap = dc, d.pc = dp, d.p.f.nm = dnm, d.p.f.nul = dnul, d.p.f.width = dw, d.p.f.idx = dx, d.p.f.kids.length = dk, cellsFs d.p.f.kids = dkc, d.p.ahead.length = da, cellsFs (d.p.ahead ++ d.rest) = dac, d.p.inD = di at hLd
    have hex : y < sn → d.p.f.kind = 19 → d.p.f.id = i → ∃ o, o ∈ (ds.take m).map Nd.p ∧ o.f.kind = 19 ∧ o.f.id = i := fun h1 h2 h3 => ⟨d.p, List.mem_map.2 ⟨d, hdm h1, rfl⟩, h2, h3⟩
    generalize d.p.f.kind = dk, d.p.f.id = did at hLd hex hst
    with_reducible refine runS hA hd hQ 300 ?hk ?_
    case hk => exact trivial
    conv => arg 9; cbv
    try simp only [OK]
    repeat' first | (with_reducible refine OKK.loop ?_) | (with_reducible refine OKK.again ?_) | ((with_reducible refine ⟨fun hbr => ?_, fun hbr => ?_⟩) <;> (try simp (disch := omega) only [hA, OK, emaU, Int.reduceToNat, s_bat, reduceCtorEq] at hbr) <;> (try (with_reducible exfalso; omega))) | ((with_reducible refine runK hA hd hQ 300 ?hk ?_); (case hk => exact trivial); (conv => arg 9; cbv); (try simp only [OK])) | ((with_reducible refine need_of ?hn ?_); (case hn => ((simp (disch := omega) only [hA, OK, emaU, Int.reduceToNat, s_bat]) <;> omega))) | ((refine ⟨_, _, ?l1, (hLd (by omega)), rfl, ?_⟩); (case l1 => exact rfl)) | fail
  all_goals try (refine OKs.mask (msk 95 [6, 73, 74, 75]) (OKs.mv [0, 1] [] (by rw [hρ]; rfl) ⟨by simp, by simp [sizeH], by simp⟩ (ih _ _ ⟨_, _, _, rfl, rfl, ?_, ?_, ?_, ?_, ?_⟩ ?_)))
  all_goals (try (with_reducible refine FinR.self ?_; first | refine FinR.n rfl ?_ | refine FinR.nh rfl ?_ rfl))
  all_goals (try simp (disch := omega) only [hA, OK, emaU, Int.reduceToNat, s_bat, Bool.false_eq_true, true_iff, false_iff, eq_self, iff_true, iff_false])
  all_goals first
    | omega
    | exact hst (by omega)
    | exact allP_step hz1 hz3 (by rw [← hg, ← hgn]; assumption)
    | exact ⟨fun h => absurd h (by decide), fun ⟨h1, h2, h3, h4, h5, h6, h7, h8⟩ => by
        exfalso
        first
          | omega
          | contradiction
          | exact h4 g (hgm (by omega)) (by rw [← hgn]; assumption)
          | exact h7 ⟨by assumption, by omega⟩
          | exact h8 ⟨by assumption, .inl trivial⟩
          | exact h8 ⟨by assumption, .inr (hex (by omega) (by assumption) (by assumption))⟩⟩
    | (refine ⟨by omega, by omega, by assumption, all_of (by omega) hz3, by assumption, by assumption, ?_, ?_⟩ <;>
        first
          | exact fun h => Bool.noConfusion (h.1.symm.trans (by assumption))
          | exact fun h => by omega
          | exact fun h => h.2.elim False.elim (none_of (by omega) hy3))
    | (rw [hnn]; clear hnn; omega)
    | (clear hex hst hy3 hz3 hQ hdg; omega)
    | (clear hex hst hy3 hz3 hQ hdg hLd hdm; omega)
end Go.Proofs.YtmckingimnhoaaaGreatDoor.Stats
