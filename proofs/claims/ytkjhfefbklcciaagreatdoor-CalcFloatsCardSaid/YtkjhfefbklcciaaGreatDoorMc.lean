/- No conditions. -/
import Derived.Test.YtkjhfefbklcciaaGreatDoorMb
import Derived.Test.YtkjhfefbklcciaaGreatDoorX37
import Derived.Test.YtkjhfefbklcciaaGreatDoorX47
import Derived.Test.YtkjhfefbklcciaaGreatDoorX34
import Derived.Tactics
import Derived.Tactics2
import Derived.StillTactics
import Derived.WalkLawsBesides
import Derived.Laws.FloatArith
import Derived.Laws.Cover3
import Derived.KernelRfl
import Derived.Test.YtkjhfefbklcciaaGreatDoorProg
set_option linter.unusedVariables false
set_option linter.unusedSimpArgs false
set_option maxRecDepth 100000
set_option maxHeartbeats 16000000
namespace Go.Proofs.YtkjhfefbklcciaaGreatDoor.Stats
open Go Go.Proofs.YtkjhfefbklcciaaGreatDoor Go.Proofs.YtkjhfefbklcciaaGreatDoor.Em
section
section
variable {a b:Nat}
theorem T7(h:Fl.infW<a%2^63):B9 a b=Fl.nanW:=by unfold B9;rw[Fl.mul_nan_l h];rfl
theorem V3(h:Fl.infW<b%2^63):B9 a b=Fl.nanW:=by unfold B9;rw[Fl.mul_nan_r h];rfl
variable (ha:a<2^64) (hb:b<2^64)
include ha hb
theorem YW(h1:a%2^63=0)(h2:b%2^63=Fl.infW):B9 a b=Fl.nanW:=by
 have h3:a%2^63<Fl.infW:=by unfold Fl.infW;omega
 unfold B9;rw[Fl.mul_inf_r ha hb h3 h2,if_pos ((Fl.mant_zero h3).2 h1)];rfl
theorem Wu(h1:a%2^63=Fl.infW)(h2:b%2^63=0):B9 a b=Fl.nanW:=by
 have h3:b%2^63<Fl.infW:=by unfold Fl.infW;omega
 unfold B9;rw[Fl.mul_inf_l ha hb h1 h3,if_pos ((Fl.mant_zero h3).2 h2)];rfl
theorem Wg(h1:a%2^63=Fl.infW)(h2:¬b%2^63=0)(h3:¬Fl.infW<b%2^63):B9 a b=Ieee.double.word (Fl.neg a ^^ Fl.neg b) Fl.infW:=by
 unfold B9
 by_cases e:b%2^63=Fl.infW
 ·rw[Fl.mul_inf_inf ha hb h1 e];rfl
 ·have h4:b%2^63<Fl.infW:=by omega
  rw[Fl.mul_inf_l ha hb h1 h4,if_neg (fun h=>h2 ((Fl.mant_zero h4).1 h))];rfl
theorem SJ(h1:b%2^63=Fl.infW)(h2:¬a%2^63=0)(h3:¬Fl.infW<a%2^63):B9 a b=Ieee.double.word (Fl.neg a ^^ Fl.neg b) Fl.infW:=by
 unfold B9
 by_cases e:a%2^63=Fl.infW
 ·rw[Fl.mul_inf_inf ha hb e h1];rfl
 ·have h4:a%2^63<Fl.infW:=by omega
  rw[Fl.mul_inf_r ha hb h4 h1,if_neg (fun h=>h2 ((Fl.mant_zero h4).1 h))];rfl
theorem Rd(h1:a%2^63<Fl.infW)(h2:b%2^63<Fl.infW):B9 a b=Ieee.double.word (Fl.neg a ^^ Fl.neg b) (Fl.rnd (Fl.mant a*Fl.mant b) (Fl.plc a+Fl.plc b)):=by
 unfold B9;rw[Fl.mul_fin ha hb h1 h2];rfl
end
theorem Zq(a b:Nat)(ha:a<18446744073709551616)(hb:b<18446744073709551616):stdA.ib .and .u64 (a:Int) (b:Int)=((a &&& b:Nat):Int):=by
 show IntKind.u64.wrap _=_
 have e1:∀m:Nat,m<18446744073709551616->(BitVec.ofInt IntKind.u64.bits (m:Int)).toNat=m:=fun m hm=>by
  show (BitVec.ofInt 64 (m:Int)).toNat=m;rw[BitVec.ofInt_natCast,BitVec.toNat_ofNat];exact Nat.mod_eq_of_lt (by omega)
 rw[BitVec.toNat_and,e1 a ha,e1 b hb]
 exact GI _ (Nat.lt_of_le_of_lt Nat.and_le_left ha)
theorem L4(a:Int)(h:rU a):stdA.ib .and .u64 a 9223372036854775808=if 9223372036854775808<=a then 9223372036854775808 else 0:=by
 unfold rU at h
 obtain⟨x,rfl⟩:=Int.eq_ofNat_of_zero_le h.1
 have:=Zq x (2^63) (by omega) (by omega)
 rw[show (((2^63:Nat)):Int)=9223372036854775808 from rfl]at this
 rw[this]
 have hb:x.testBit 63=decide (2^63<=x):=by
  rw[Nat.testBit_eq_decide_div_mod_eq];exact decide_eq_decide.2 (by omega)
 have e:x &&& 2^63=if 2^63<=x then 2^63 else 0:=by
  apply Nat.eq_of_testBit_eq;intro i;rw[Nat.testBit_and,Nat.testBit_two_pow]
  by_cases h:63=i
  ·subst h
   rw[hb]
   by_cases h2:2^63<=x
   ·rw[if_pos h2,Nat.testBit_two_pow];simp[h2]
   ·rw[if_neg h2];simp[h2]
  ·simp only[h,decide_false,Bool.and_false]
   split
   ·rw[Nat.testBit_two_pow];simp[h]
   ·simp
 rw[e]
 split<;>split<;>omega
theorem P7(a b:Int)(ha:rU a)(hb:rU b):stdA.ib .xor .u64 (stdA.ib .and .u64 a 9223372036854775808) (stdA.ib .and .u64 b 9223372036854775808)=if (Fl.neg a.toNat ^^ Fl.neg b.toNat)=true then 9223372036854775808 else 0:=by
 rw[L4 a ha,L4 b hb]
 unfold Fl.neg
 unfold rU at ha hb
 by_cases h1:9223372036854775808<=a<;>by_cases h2:9223372036854775808<=b
 ·rw[if_pos h1,if_pos h2,decide_eq_true (by omega),decide_eq_true (by omega)];decide
 ·rw[if_pos h1,if_neg h2,decide_eq_true (by omega),decide_eq_false (by omega)];decide
 ·rw[if_neg h1,if_pos h2,decide_eq_false (by omega),decide_eq_true (by omega)];decide
 ·rw[if_neg h1,if_neg h2,decide_eq_false (by omega),decide_eq_false (by omega)];decide
theorem Vm(s' s mo' mo:Bool)(hi0 lo0 xx x:Int)(N:Nat)(hs:s'=s)(hm:mo'=mo)(hxx:xx=x)(hh:rU hi0)(hlo:rU lo0)(hN:hi0*18446744073709551616+lo0=N)(hN0:N≠0)(hmo:mo=true->2^60<=N)(hx: -4000<=x/\x<=4000)(h:EH) :
  Tri Tryz.prog gs 240 [.sb s',.agg [.lit (.int .u64 hi0),.lit (.int .u64 lo0)],.lit (.int .i64 xx),.sb mo'] h fun v h'=>
   IsN .u64 (fun z=>z=((Ieee.double.word s (Fl.rnd (if mo then 2*N+1 else N) (x-(if mo then 1 else 0))):Nat):Int)) v/\h'=h:=by
 subst hxx;subst hs;subst hm
 exact tM (NC s' mo' hi0 lo0 xx N hh hlo hN hN0 hmo hx h) fun v h' hx=>⟨⟨_,hx.1,rfl⟩,hx.2⟩
theorem WN(s' s:Bool)(hi0 lo0 xx x:Int)(N:Nat)(hs:s'=s)(hxx:xx=x)(hh:rU hi0)(hlo:rU lo0)(hN:hi0*18446744073709551616+lo0=N)(hN0:N≠0)(hx: -4000<=x/\x<=4000)(h:EH) :
  Tri Tryz.prog gs 240 [.sb s',.agg [.lit (.int .u64 hi0),.lit (.int .u64 lo0)],.lit (.int .i64 xx),.lit (.bool false)] h fun v h'=>
   IsN .u64 (fun z=>z=((Ieee.double.word s (Fl.rnd N x):Nat):Int)) v/\h'=h:=by
 subst hs
 have:=HG s' false hi0 lo0 xx x N hxx hh hlo hN hN0 (fun e=>by cases e) hx h
 simpa using this
theorem Ta (a b : Int) (ha : rU a) (hb : rU b) (h : EH) :
    Tri Tryz.prog gs 170 [.lit (.int .u64 a), .lit (.int .u64 b)] h fun v h' => v = .lit (.int .u64 (B9 a.toNat b.toNat : Nat)) ∧ h' = h := by
  obtain ⟨az, haz⟩ : ∃ q : Int, q = a % 9223372036854775808 := ⟨_, rfl⟩
  obtain ⟨bz, hbz⟩ : ∃ q : Int, q = b % 9223372036854775808 := ⟨_, rfl⟩
  have n1 := GC a az ha haz
  have n2 := GC b bz hb hbz
  have i1 := Gi a az ha haz
  have i2 := Gi b bz hb hbz
  have p1 := GA a ha
  have p2 := GA b hb
  have hsx := P7 a b ha hb
  have ha2 := ha
  have hb2 := hb
  unfold rU at ha2 hb2
  obtain ⟨a', ha'⟩ : ∃ q, q = a.toNat := ⟨_, rfl⟩
  obtain ⟨b', hb'⟩ : ∃ q, q = b.toNat := ⟨_, rfl⟩
  rw [← ha', ← hb'] at hsx ⊢
  rw [← ha'] at p1
  rw [← hb'] at p2
  have qa : a' < 2 ^ 64 := by omega
  have qb : b' < 2 ^ 64 := by omega
  obtain ⟨sx, hsx1⟩ : ∃ q, q = (Fl.neg a' ^^ Fl.neg b') := ⟨_, rfl⟩
  obtain ⟨sg, hsg⟩ : ∃ q : Int, q = if sx = true then 9223372036854775808 else 0 := ⟨_, rfl⟩
  rw [← hsx1, ← hsg] at hsx
  have hsg2 : sg = 0 ∨ sg = 9223372036854775808 := by cases sx <;> simp_all
  have hsne : decide (sg ≠ 0) = sx := by cases sx <;> simp_all
  obtain ⟨S, hS⟩ : ∃ q, q = B9 a' b' := ⟨_, rfl⟩
  obtain ⟨X, hX⟩ : ∃ q : Int, q = S := ⟨_, rfl⟩
  rw [← hS, ← hX]
  have hword : ∀ r : Nat, ((Ieee.double.word sx r : Nat) : Int) = sg + r := fun r => by rw [Fl.word_eq, hsg]; cases sx <;> simp
  have hinf : (Fl.infW : Int) = 9218868437227405312 := rfl
  have hmz1 : Hid (¬ 9218868437227405312 ≤ az → (Fl.mant a' = 0 ↔ az = 0)) := fun e => (Fl.mant_zero (by omega)).trans (by omega)
  have hmz2 : Hid (¬ 9218868437227405312 ≤ bz → (Fl.mant b' = 0 ↔ bz = 0)) := fun e => (Fl.mant_zero (by omega)).trans (by omega)
  have f1 : Hid (9218868437227405312 < az → X = 9221120237041090560) := fun e => by rw [hX, hS, T7 (by omega)]; rfl
  have f2 : Hid (9218868437227405312 < bz → X = 9221120237041090560) := fun e => by rw [hX, hS, V3 (by omega)]; rfl
  have f3 : Hid (az = 0 → bz = 9218868437227405312 → X = 9221120237041090560) := fun e e2 => by rw [hX, hS, YW qa qb (by omega) (by omega)]; rfl
  have f4 : Hid (bz = 0 → az = 9218868437227405312 → X = 9221120237041090560) := fun e e2 => by rw [hX, hS, Wu qa qb (by omega) (by omega)]; rfl
  have f5 : Hid (az = 9218868437227405312 → ¬ bz = 0 → ¬ 9218868437227405312 < bz → X = sg + 9218868437227405312) := fun e e2 e3 => by rw [hX, hS, Wg qa qb (by omega) (by omega) (by omega), ← hsx1, hword]; rfl
  have f6 : Hid (bz = 9218868437227405312 → ¬ az = 0 → ¬ 9218868437227405312 < az → X = sg + 9218868437227405312) := fun e e2 e3 => by rw [hX, hS, SJ qa qb (by omega) (by omega) (by omega), ← hsx1, hword]; rfl
  have f7 : Hid (¬ 9218868437227405312 ≤ az → ¬ 9218868437227405312 ≤ bz → az = 0 ∨ bz = 0 → X = sg) := fun e e2 e3 => by
    rw [hX, hS, Rd qa qb (by omega) (by omega), ← hsx1, hword]
    have : Fl.mant a' * Fl.mant b' = 0 := by
      rcases e3 with e3 | e3
      · rw [(hmz1.out e).2 e3, Nat.zero_mul]
      · rw [(hmz2.out e2).2 e3, Nat.mul_zero]
    rw [this, Fl.rnd_zero]; omega
  have hMl := Fl.mant_lt a'
  have hKl := Fl.mant_lt b'
  have hx1 := Fl.plc_ge a'
  have hy1 := Fl.plc_ge b'
  have hx2 : Fl.plc a' ≤ 972 := by unfold Fl.plc; split <;> omega
  have hy2 : Fl.plc b' ≤ 972 := by unfold Fl.plc; split <;> omega
  have f8 : Hid (¬ 9218868437227405312 ≤ az → ¬ 9218868437227405312 ≤ bz → X = ((Ieee.double.word sx (Fl.rnd (Fl.mant a' * Fl.mant b') (Fl.plc a' + Fl.plc b')) : Nat) : Int)) := fun e e2 => by
    rw [hX, hS, Rd qa qb (by omega) (by omega), ← hsx1]
  have f9 : Hid (¬ 9218868437227405312 ≤ az → ¬ 9218868437227405312 ≤ bz → ¬ az = 0 → ¬ bz = 0 → Fl.mant a' * Fl.mant b' ≠ 0) := fun e e2 e3 e4 =>
    Nat.mul_ne_zero (fun q => e3 ((hmz1.out e).1 q)) (fun q => e4 ((hmz2.out e2).1 q))
  obtain ⟨m, hm⟩ : ∃ q, q = Fl.mant a' := ⟨_, rfl⟩
  obtain ⟨k, hk⟩ : ∃ q, q = Fl.mant b' := ⟨_, rfl⟩
  obtain ⟨x, hx⟩ : ∃ q, q = Fl.plc a' := ⟨_, rfl⟩
  obtain ⟨y, hy⟩ : ∃ q, q = Fl.plc b' := ⟨_, rfl⟩
  obtain ⟨M, hM⟩ : ∃ q : Int, q = m := ⟨_, rfl⟩
  obtain ⟨K, hK⟩ : ∃ q : Int, q = k := ⟨_, rfl⟩
  rw [← hm, ← hx, ← hM] at p1
  rw [← hk, ← hy, ← hK] at p2
  rw [← hm, ← hk] at f8 f9
  rw [← hx, ← hy] at f8
  rw [← hm] at hMl
  rw [← hk] at hKl
  rw [← hx] at hx1 hx2
  rw [← hy] at hy1 hy2
  have hMr : rU M := by unfold rU; omega
  have hKr : rU K := by unfold rU; omega
  have ht := R1 M K hMr hKr (by omega)
  obtain ⟨P, hP⟩ : ∃ q, q = m * k := ⟨_, rfl⟩
  rw [show M * K = (P : Int) by rw [hP, hM, hK, ← Int.natCast_mul]] at ht
  rw [← hP] at f8 f9
  clear hS hm hk hx hy hsx1 hinf qa qb hP hword hmz1 hmz2 hsg
  refine Tri.valA rfl rfl (Bk F170_ok fun I0 ρ0 w0' Q hρ hQ => ?_) h
  obtain ⟨A, hA⟩ : ∃ A, A = stdA := ⟨_, rfl⟩
  with_reducible refine Bf hA hd hQ 200 ?hk ?_
  case hk => trivial
  conv => arg 9; cbv
  try simp only [OK]
  repeat' first | ((with_reducible refine ⟨fun hbr => ?_, fun hbr => ?_⟩) <;> (try simp (disch := omega) only [hA, Ba, Cd, reduceCtorEq] at hbr) <;> (try (with_reducible exfalso; omega))) | ((with_reducible refine Be hA hd hQ 200 ?hk ?_); (case hk => trivial); (conv => arg 9; cbv); (try simp only [OK])) | ((with_reducible refine Bn ?hn ?_); (case hn => ((simp (disch := omega) only [hA, Ba]) <;> omega))) | ((with_reducible refine cO ?hg ?_); (case hg => with_reducible exact Bi F235_ok); (refine tM (n1 _) fun v hh hx => ?_); (obtain ⟨⟨b, hv, hb⟩, he⟩ := hx; subst hv; subst he; cases b <;> simp (disch := omega) only [bF, true_iff, false_iff, eq_self] at hb) <;> (try (with_reducible exfalso; omega))) | ((with_reducible refine cO ?hg ?_); (case hg => with_reducible exact Bi F235_ok); (refine tM (n2 _) fun v hh hx => ?_); (obtain ⟨⟨b, hv, hb⟩, he⟩ := hx; subst hv; subst he; cases b <;> simp (disch := omega) only [bF, true_iff, false_iff, eq_self] at hb) <;> (try (with_reducible exfalso; omega))) | ((with_reducible refine cO ?hg ?_); (case hg => with_reducible exact Bi F236_ok); (refine tM (i1 _) fun v hh hx => ?_); (obtain ⟨⟨b, hv, hb⟩, he⟩ := hx; subst hv; subst he; cases b <;> simp (disch := omega) only [bF, true_iff, false_iff, eq_self] at hb) <;> (try (with_reducible exfalso; omega))) | ((with_reducible refine cO ?hg ?_); (case hg => with_reducible exact Bi F236_ok); (refine tM (i2 _) fun v hh hx => ?_); (obtain ⟨⟨b, hv, hb⟩, he⟩ := hx; subst hv; subst he; cases b <;> simp (disch := omega) only [bF, true_iff, false_iff, eq_self] at hb) <;> (try (with_reducible exfalso; omega))) | ((with_reducible refine cO ?hg ?_); (case hg => with_reducible exact Bi F237_ok); refine tM (p1 _) ?_; rintro _ _ ⟨rfl, rfl⟩) | ((with_reducible refine cO ?hg ?_); (case hg => with_reducible exact Bi F237_ok); refine tM (p2 _) ?_; rintro _ _ ⟨rfl, rfl⟩) | ((with_reducible refine cO ?hg ?_); (case hg => with_reducible exact Bi F173_ok); (refine tM (ht _) fun v hh hx => ?_); (obtain ⟨⟨x3, y3, hv, hx3, hy3, hxy3⟩, hh'⟩ := hx; subst hv; subst hh'))
  all_goals first
    | exact fI_ rfl (BO (f1.out (by omega)).symm)
    | exact fI_ rfl (BO (f2.out (by omega)).symm)
    | exact fI_ rfl (BO (f3.out (by omega) (by omega)).symm)
    | exact fI_ rfl (BO (f4.out (by omega) (by omega)).symm)
    | (refine fI_ rfl (BO ?_)
       rw [f5.out (by omega) (by omega) (by omega)]
       simp (disch := omega) only [hA, Dj , hsx])
    | (refine fI_ rfl (BO ?_)
       rw [f6.out (by omega) (by omega) (by omega)]
       simp (disch := omega) only [hA, Dj , hsx])
    | (refine fI_ rfl (BO ?_)
       rw [f7.out (by omega) (by omega) (by omega)]
       simp (disch := omega) only [hA, hsx])
    | (have hP0 := f9.out (by omega) (by omega) (by omega) (by omega)
       refine cO (Bi F240_ok) (tM (WN _ sx x3 y3 _ (x + y) P (by simp (disch := omega) only [hA, Ba, hsx, hsne]) (by simp (disch := omega) only [hA, Ba] <;> omega) hx3 hy3 hxy3 hP0 (by omega) _) fun v hh hx => ?_)
       obtain ⟨⟨z, hv, hz⟩, hh'⟩ := hx
       subst hv; subst hh'
       with_reducible refine Be hA hd hQ 1 ?hk ?_
       case hk => trivial
       conv => arg 9; cbv
       try simp only [OK]
       repeat' first | ((with_reducible refine Be hA hd hQ 200 ?hk ?_); (case hk => trivial); (conv => arg 9; cbv); (try simp only [OK]))
       refine fI_ rfl (BO ?_)
       rw [hz, f8.out (by omega) (by omega)])
    | trace_state
end
section
section
variable {a b:Nat}
theorem YX(h:Fl.infW<a%2^63):B7 a b=Fl.nanW:=by unfold B7;rw[Fl.div_nan_l h];rfl
theorem UV(h:Fl.infW<b%2^63):B7 a b=Fl.nanW:=by unfold B7;rw[Fl.div_nan_r h];rfl
variable (ha:a<2^64) (hb:b<2^64)
include ha hb
theorem Sn(h1:a%2^63=Fl.infW)(h2:b%2^63=Fl.infW):B7 a b=Fl.nanW:=by unfold B7;rw[Fl.div_inf_inf ha hb h1 h2];rfl
theorem VF(h1:a%2^63=0)(h2:b%2^63=0):B7 a b=Fl.nanW:=by
 have h3:a%2^63<Fl.infW:=by unfold Fl.infW;omega
 have h4:b%2^63<Fl.infW:=by unfold Fl.infW;omega
 unfold B7;rw[Fl.div_zero ha hb h3 h4 ((Fl.mant_zero h4).2 h2),if_pos ((Fl.mant_zero h3).2 h1)];rfl
theorem Vf(h:a%2^63=Fl.infW/\b%2^63<Fl.infW\/a%2^63<Fl.infW/\¬a%2^63=0/\b%2^63=0):B7 a b=Ieee.double.word (Fl.neg a ^^ Fl.neg b) Fl.infW:=by
 unfold B7
 rcases h with ⟨h1,h2⟩|⟨h1,h2,h3⟩
 ·rw[Fl.div_inf_l ha hb h1 h2];rfl
 ·have h4:b%2^63<Fl.infW:=by unfold Fl.infW;omega
  rw[Fl.div_zero ha hb h1 h4 ((Fl.mant_zero h4).2 h3),if_neg (fun h=>h2 ((Fl.mant_zero h1).1 h))];rfl
theorem VL(h:b%2^63=Fl.infW/\a%2^63<Fl.infW\/a%2^63=0/\b%2^63<Fl.infW/\¬b%2^63=0):B7 a b=Ieee.double.word (Fl.neg a ^^ Fl.neg b) 0:=by
 unfold B7
 rcases h with ⟨h1,h2⟩|⟨h1,h2,h3⟩
 ·rw[Fl.div_inf_r ha hb h2 h1];rfl
 ·have h4:a%2^63<Fl.infW:=by unfold Fl.infW;omega
  rw[Fl.zero_div ha hb h4 h2 (fun h=>h3 ((Fl.mant_zero h2).1 h)) ((Fl.mant_zero h4).2 h1)];rfl
theorem WJ(h:a%2^63<Fl.infW)(h':b%2^63<Fl.infW)(h0:Fl.mant a≠0)(h1:Fl.mant b≠0)
  (i j m n:Nat) (hm:m=Fl.mant a*2^i) (hn:n=Fl.mant b*2^j) (m1:2^52<=m) (m2:m<2^53) (n1:2^52<=n) (n2:n<2^53) (Q R:Nat) (hQ:Q*n+R=m*2^62) (hR:R<n) :
  B7 a b=Ieee.double.word (Fl.neg a ^^ Fl.neg b) (Fl.rnd (if (R != 0)then 2*Q+1 else Q) ((Fl.plc a-i)-(Fl.plc b-j)-62-(if (R != 0)then 1 else 0)))/\2^60<=Q:=by
 have e1:m*2^62/n=Q:=by
  rw[<-hQ,Nat.add_comm,Nat.add_mul_div_right _ _ (by omega),Nat.div_eq_of_lt hR,Nat.zero_add]
 have e2:m*2^62%n=R:=by
  rw[<-hQ,Nat.add_comm,Nat.add_mul_mod_self_right,Nat.mod_eq_of_lt hR]
 have:=Fl.div_fin ha hb h h' h0 h1 i j m n hm hn m1 m2 n1 n2 (R != 0) (by rw[e2])
 unfold B7
 rw[this,e1]
 refine⟨rfl,?_⟩
 rw[<-e1,Nat.le_div_iff_mul_le (by omega)]
 omega
end
theorem Lh{m i:Nat}(h:m≠0)(h2:m*2^i<2^53):i<=52:=by
 rcases Nat.lt_or_ge 52 i with h3|h3
 ·have e1:2^53<=2^i:=Nat.pow_le_pow_right (by omega) h3
  have e2:1*2^i<=m*2^i:=Nat.mul_le_mul_right _ (by omega)
  omega
 ·exact h3
theorem V8(r:Int)(h:0<=r):decide (r≠0)=(r.toNat != 0):=by
 rw[Bool.eq_iff_iff];simp only[decide_eq_true_eq,bne_iff_ne,ne_eq];omega
theorem Sv{q n r q2 r2 Y:Int}(h:q*n+r=Y)(hc:(q2=2*q+1/\r2=2*r-n)\/(q2=2*q/\r2=2*r)):q2*n+r2=2*Y:=by
 rcases hc with ⟨rfl,rfl⟩|⟨rfl,rfl⟩
 ·rw[Int.add_mul,Int.mul_assoc];omega
 ·rw[Int.mul_assoc];omega
end
theorem Wq (a b : Int) (ha : rU a) (hb : rU b) (h : EH) :
    Tri Tryz.prog gs 171 [.lit (.int .u64 a), .lit (.int .u64 b)] h fun v h' => v = .lit (.int .u64 (B7 a.toNat b.toNat : Nat)) ∧ h' = h := by
  obtain ⟨az, haz⟩ : ∃ q : Int, q = a % 9223372036854775808 := ⟨_, rfl⟩
  obtain ⟨bz, hbz⟩ : ∃ q : Int, q = b % 9223372036854775808 := ⟨_, rfl⟩
  have n1 := GC a az ha haz
  have n2 := GC b bz hb hbz
  have i1 := Gi a az ha haz
  have i2 := Gi b bz hb hbz
  have p1 := GA a ha
  have p2 := GA b hb
  have hsx := P7 a b ha hb
  have ha2 := ha
  have hb2 := hb
  unfold rU at ha2 hb2
  obtain ⟨a', ha'⟩ : ∃ q, q = a.toNat := ⟨_, rfl⟩
  obtain ⟨b', hb'⟩ : ∃ q, q = b.toNat := ⟨_, rfl⟩
  rw [← ha', ← hb'] at hsx ⊢
  rw [← ha'] at p1
  rw [← hb'] at p2
  have qa : a' < 2 ^ 64 := by omega
  have qb : b' < 2 ^ 64 := by omega
  obtain ⟨sx, hsx1⟩ : ∃ q, q = (Fl.neg a' ^^ Fl.neg b') := ⟨_, rfl⟩
  obtain ⟨sg, hsg⟩ : ∃ q : Int, q = if sx = true then 9223372036854775808 else 0 := ⟨_, rfl⟩
  rw [← hsx1, ← hsg] at hsx
  have hsg2 : sg = 0 ∨ sg = 9223372036854775808 := by cases sx <;> simp_all
  have hsne : decide (sg ≠ 0) = sx := by cases sx <;> simp_all
  obtain ⟨S, hS⟩ : ∃ q, q = B7 a' b' := ⟨_, rfl⟩
  obtain ⟨X, hX⟩ : ∃ q : Int, q = S := ⟨_, rfl⟩
  rw [← hS, ← hX]
  have hword : ∀ r : Nat, ((Ieee.double.word sx r : Nat) : Int) = sg + r := fun r => by rw [Fl.word_eq, hsg]; cases sx <;> simp
  have hinf : (Fl.infW : Int) = 9218868437227405312 := rfl
  have hmz1 : Hid (¬ 9218868437227405312 ≤ az → (Fl.mant a' = 0 ↔ az = 0)) := fun e => (Fl.mant_zero (by omega)).trans (by omega)
  have hmz2 : Hid (¬ 9218868437227405312 ≤ bz → (Fl.mant b' = 0 ↔ bz = 0)) := fun e => (Fl.mant_zero (by omega)).trans (by omega)
  have f1 : Hid (9218868437227405312 < az → X = 9221120237041090560) := fun e => by rw [hX, hS, YX (by omega)]; rfl
  have f2 : Hid (9218868437227405312 < bz → X = 9221120237041090560) := fun e => by rw [hX, hS, UV (by omega)]; rfl
  have f3 : Hid (az = 9218868437227405312 → bz = 9218868437227405312 → X = 9221120237041090560) := fun e e2 => by rw [hX, hS, Sn qa qb (by omega) (by omega)]; rfl
  have f4 : Hid (az = 0 → bz = 0 → X = 9221120237041090560) := fun e e2 => by rw [hX, hS, VF qa qb (by omega) (by omega)]; rfl
  have f5 : Hid ((az = 9218868437227405312 ∧ bz < 9218868437227405312) ∨ (az < 9218868437227405312 ∧ ¬ az = 0 ∧ bz = 0) → X = sg + 9218868437227405312) := fun e => by rw [hX, hS, Vf qa qb (by omega), ← hsx1, hword]; rfl
  have f6 : Hid ((bz = 9218868437227405312 ∧ az < 9218868437227405312) ∨ (az = 0 ∧ bz < 9218868437227405312 ∧ ¬ bz = 0) → X = sg) := fun e => by rw [hX, hS, VL qa qb (by omega), ← hsx1, hword]; omega
  have hMl := Fl.mant_lt a'
  have hKl := Fl.mant_lt b'
  have hx1 := Fl.plc_ge a'
  have hy1 := Fl.plc_ge b'
  have hx2 : Fl.plc a' ≤ 972 := by unfold Fl.plc; split <;> omega
  have hy2 : Fl.plc b' ≤ 972 := by unfold Fl.plc; split <;> omega
  have f8 : Hid (∀ (i j m n Q R : Nat), ¬ 9218868437227405312 ≤ az → ¬ 9218868437227405312 ≤ bz → Fl.mant a' ≠ 0 → Fl.mant b' ≠ 0 → m = Fl.mant a' * 2 ^ i → n = Fl.mant b' * 2 ^ j → 2 ^ 52 ≤ m → m < 2 ^ 53 → 2 ^ 52 ≤ n → n < 2 ^ 53 → Q * n + R = m * 2 ^ 62 → R < n →
      X = ((Ieee.double.word sx (Fl.rnd (if (R != 0) then 2 * Q + 1 else Q) ((Fl.plc a' - i) - (Fl.plc b' - j) - 62 - (if (R != 0) then 1 else 0))) : Nat) : Int) ∧ 2 ^ 60 ≤ Q) := fun i j m n Q R e e2 e3 e4 e5 e6 e7 e8 e9 e10 e11 e12 => by
    obtain ⟨q1, q2⟩ := WJ qa qb (by omega) (by omega) e3 e4 i j m n e5 e6 e7 e8 e9 e10 Q R e11 e12
    rw [hX, hS, q1, ← hsx1]
    exact ⟨rfl, q2⟩
  have f9 : Hid (¬ 9218868437227405312 ≤ az → ¬ az = 0 → Fl.mant a' ≠ 0) := fun e e3 q => e3 ((hmz1.out e).1 q)
  have f10 : Hid (¬ 9218868437227405312 ≤ bz → ¬ bz = 0 → Fl.mant b' ≠ 0) := fun e e3 q => e3 ((hmz2.out e).1 q)
  obtain ⟨m, hm⟩ : ∃ q, q = Fl.mant a' := ⟨_, rfl⟩
  obtain ⟨k, hk⟩ : ∃ q, q = Fl.mant b' := ⟨_, rfl⟩
  obtain ⟨x, hx⟩ : ∃ q, q = Fl.plc a' := ⟨_, rfl⟩
  obtain ⟨y, hy⟩ : ∃ q, q = Fl.plc b' := ⟨_, rfl⟩
  obtain ⟨M, hM⟩ : ∃ q : Int, q = m := ⟨_, rfl⟩
  obtain ⟨K, hK⟩ : ∃ q : Int, q = k := ⟨_, rfl⟩
  rw [← hm, ← hx, ← hM] at p1
  rw [← hk, ← hy, ← hK] at p2
  rw [← hm, ← hk, ← hx, ← hy] at f8
  rw [← hm] at hMl f9
  rw [← hk] at hKl f10
  rw [← hx] at hx1 hx2
  rw [← hy] at hy1 hy2
  have hMr : rU M := by unfold rU; omega
  have hKr : rU K := by unfold rU; omega
  clear hS hm hk hx hy hsx1 hinf qa qb hword hmz1 hmz2 hsg
  refine Tri.valA rfl rfl (Bk F171_ok fun I0 ρ0 w0' Q hρ hQ => ?_) h
  obtain ⟨A, hA⟩ : ∃ A, A = stdA := ⟨_, rfl⟩
  with_reducible refine Bf hA hd hQ 200 ?hk ?_
  case hk => trivial
  conv => arg 9; cbv
  try simp only [OK]
  repeat' first | (with_reducible refine OKK.loop ?_) | ((with_reducible refine ⟨fun hbr => ?_, fun hbr => ?_⟩) <;> (try simp (disch := omega) only [hA, Ba, Cd, reduceCtorEq] at hbr) <;> (try (with_reducible exfalso; omega))) | ((with_reducible refine Be hA hd hQ 200 ?hk ?_); (case hk => trivial); (conv => arg 9; cbv); (try simp only [OK])) | ((with_reducible refine Bn ?hn ?_); (case hn => ((simp (disch := omega) only [hA, Ba]) <;> omega))) | ((with_reducible refine cO ?hg ?_); (case hg => with_reducible exact Bi F235_ok); (refine tM (n1 _) fun v hh hx => ?_); (obtain ⟨⟨b, hv, hb⟩, he⟩ := hx; subst hv; subst he; cases b <;> simp (disch := omega) only [bF, true_iff, false_iff, eq_self] at hb) <;> (try (with_reducible exfalso; omega))) | ((with_reducible refine cO ?hg ?_); (case hg => with_reducible exact Bi F235_ok); (refine tM (n2 _) fun v hh hx => ?_); (obtain ⟨⟨b, hv, hb⟩, he⟩ := hx; subst hv; subst he; cases b <;> simp (disch := omega) only [bF, true_iff, false_iff, eq_self] at hb) <;> (try (with_reducible exfalso; omega))) | ((with_reducible refine cO ?hg ?_); (case hg => with_reducible exact Bi F236_ok); (refine tM (i1 _) fun v hh hx => ?_); (obtain ⟨⟨b, hv, hb⟩, he⟩ := hx; subst hv; subst he; cases b <;> simp (disch := omega) only [bF, true_iff, false_iff, eq_self] at hb) <;> (try (with_reducible exfalso; omega))) | ((with_reducible refine cO ?hg ?_); (case hg => with_reducible exact Bi F236_ok); (refine tM (i2 _) fun v hh hx => ?_); (obtain ⟨⟨b, hv, hb⟩, he⟩ := hx; subst hv; subst he; cases b <;> simp (disch := omega) only [bF, true_iff, false_iff, eq_self] at hb) <;> (try (with_reducible exfalso; omega))) | ((with_reducible refine cO ?hg ?_); (case hg => with_reducible exact Bi F237_ok); refine tM (p1 _) ?_; rintro _ _ ⟨rfl, rfl⟩) | ((with_reducible refine cO ?hg ?_); (case hg => with_reducible exact Bi F237_ok); refine tM (p2 _) ?_; rintro _ _ ⟨rfl, rfl⟩)
  all_goals try first
    | exact fI_ rfl (BO (f1.out (by omega)).symm)
    | exact fI_ rfl (BO (f2.out (by omega)).symm)
    | exact fI_ rfl (BO (f3.out (by omega) (by omega)).symm)
    | exact fI_ rfl (BO (f4.out (by omega) (by omega)).symm)
    | (refine fI_ rfl (BO ?_)
       rw [f5.out (by omega)]
       simp (disch := omega) only [hA, Dj , hsx])
    | (refine fI_ rfl (BO ?_)
       rw [f6.out (by omega)]
       simp (disch := omega) only [hA, hsx])
  all_goals
    have hm0 := f9.out (by omega) (by omega)
    have hk0 := f10.out (by omega) (by omega)
    have f8' := Hid.mk (fun (i j m' n' Q R : Nat) => f8.out i j m' n' Q R (by omega) (by omega) hm0 hk0)
    clear f1 f2 f3 f4 f5 f6 f8 f9 f10 n1 n2 i1 i2 p1 p2
    refine oK_ (msk 118 [5, 6, 7, 8, 9]) ?_
    refine oL_ (fun mm st => ∃ (u M' x' : Int) (i : Nat), st = ⟨mkT 118 [(5, .lit (.int .u64 u)), (6, .lit (.int .u64 M')), (7, .lit (.int .i64 x')), (8, .lit (.int .u64 K)), (9, .lit (.int .i64 y))], []⟩ ∧
        mm = (4503599627370496 - M').toNat ∧ u = sg ∧ M' = ((m * 2 ^ i : Nat) : Int) ∧ x' = x - i ∧ M' < 9007199254740992 ∧ 1 ≤ M')
      (fun mm st hs' ih => ?_) ⟨_, M, x, 0, rfl, rfl, ?_, by simp [hM], by simp, by omega, by omega⟩
    rotate_left
    · simp (disch := omega) only [hA, hsx]
    obtain ⟨u, M', x', i, rfl, hmm, hu, hM', hx', hM1, hM2⟩ := hs'
    have hi : i ≤ 52 := Lh hm0 (by omega)
    have hms : m * 2 ^ (i + 1) = 2 * (m * 2 ^ i) := by rw [Nat.pow_succ, ← Nat.mul_assoc, Nat.mul_comm]
    by_cases hlt : M' < 4503599627370496
    · skip
      with_reducible refine Bf hA hd hQ 200 ?hk ?_
      case hk => trivial
      conv => arg 9; cbv
      try simp only [OK]
      repeat' first | (with_reducible refine OKK.again ?_) | ((with_reducible refine ⟨fun hbr => ?_, fun hbr => ?_⟩) <;> (try simp (disch := omega) only [hA, Ba] at hbr) <;> (try (with_reducible exfalso; omega))) | ((with_reducible refine Be hA hd hQ 200 ?hk ?_); (case hk => trivial); (conv => arg 9; cbv); (try simp only [OK]))
      refine oK_ (msk 118 [5, 6, 7, 8, 9]) (OKs.mv [] [] (by rw [hρ]; rfl) ⟨by simp, by simp [Bd], by simp⟩ (ih _ _ ⟨u, A.ib .mul .u64 M' 2, A.ib .sub .i64 x' 1, i + 1, rfl, rfl, hu, ?_, ?_, ?_, ?_⟩ ?_))
      · rw [hms]; simp (disch := omega) only [hA, BZ] <;> omega
      · simp (disch := omega) only [hA, Ba] <;> omega
      · simp (disch := omega) only [hA, BZ] <;> omega
      · simp (disch := omega) only [hA, BZ] <;> omega
      · simp (disch := omega) only [hA, BZ] <;> omega
    clear ih
    with_reducible refine Bf hA hd hQ 200 ?hk ?_
    case hk => trivial
    conv => arg 9; cbv
    try simp only [OK]
    repeat' first | (with_reducible refine OKK.loop ?_) | ((with_reducible refine ⟨fun hbr => ?_, fun hbr => ?_⟩) <;> (try simp (disch := omega) only [hA, Ba] at hbr) <;> (try (with_reducible exfalso; omega))) | ((with_reducible refine Be hA hd hQ 200 ?hk ?_); (case hk => trivial); (conv => arg 9; cbv); (try simp only [OK]))
    refine oK_ (msk 118 [5, 6, 7, 8, 9]) ?_
    refine oL_ (fun mm st => ∃ (K' y' : Int) (j : Nat), st = ⟨mkT 118 [(5, .lit (.int .u64 u)), (6, .lit (.int .u64 M')), (7, .lit (.int .i64 x')), (8, .lit (.int .u64 K')), (9, .lit (.int .i64 y'))], []⟩ ∧
        mm = (4503599627370496 - K').toNat ∧ K' = ((k * 2 ^ j : Nat) : Int) ∧ y' = y - j ∧ K' < 9007199254740992 ∧ 1 ≤ K')
      (fun mm st hs' ih => ?_) ⟨K, y, 0, rfl, rfl, by simp [hK], by simp, by omega, by omega⟩
    obtain ⟨K', y', j, rfl, hmm2, hK', hy', hK1, hK2⟩ := hs'
    have hj : j ≤ 52 := Lh hk0 (by omega)
    have hks : k * 2 ^ (j + 1) = 2 * (k * 2 ^ j) := by rw [Nat.pow_succ, ← Nat.mul_assoc, Nat.mul_comm]
    by_cases hlt2 : K' < 4503599627370496
    · skip
      with_reducible refine Bf hA hd hQ 200 ?hk ?_
      case hk => trivial
      conv => arg 9; cbv
      try simp only [OK]
      repeat' first | (with_reducible refine OKK.again ?_) | ((with_reducible refine ⟨fun hbr => ?_, fun hbr => ?_⟩) <;> (try simp (disch := omega) only [hA, Ba] at hbr) <;> (try (with_reducible exfalso; omega))) | ((with_reducible refine Be hA hd hQ 200 ?hk ?_); (case hk => trivial); (conv => arg 9; cbv); (try simp only [OK]))
      refine oK_ (msk 118 [5, 6, 7, 8, 9]) (OKs.mv [] [] (by rw [hρ]; rfl) ⟨by simp, by simp [Bd], by simp⟩ (ih _ _ ⟨A.ib .mul .u64 K' 2, A.ib .sub .i64 y' 1, j + 1, rfl, rfl, ?_, ?_, ?_, ?_⟩ ?_))
      · rw [hks]; simp (disch := omega) only [hA, BZ] <;> omega
      · simp (disch := omega) only [hA, Ba] <;> omega
      · simp (disch := omega) only [hA, BZ] <;> omega
      · simp (disch := omega) only [hA, BZ] <;> omega
      · simp (disch := omega) only [hA, BZ] <;> omega
    clear ih
    with_reducible refine Bf hA hd hQ 200 ?hk ?_
    case hk => trivial
    conv => arg 9; cbv
    try simp only [OK]
    repeat' first | (with_reducible refine OKK.loop ?_) | ((with_reducible refine ⟨fun hbr => ?_, fun hbr => ?_⟩) <;> (try simp (disch := omega) only [hA, Ba] at hbr) <;> (try (with_reducible exfalso; omega))) | ((with_reducible refine Be hA hd hQ 200 ?hk ?_); (case hk => trivial); (conv => arg 9; cbv); (try simp only [OK]))
    all_goals
      refine oK_ (msk 118 [5, 6, 7, 8, 9, 10, 11, 12]) ?_
      refine oL_ (fun mm st => ∃ (q r ti : Int) (t : Nat), st = ⟨mkT 118 [(5, .lit (.int .u64 u)), (6, .lit (.int .u64 M')), (7, .lit (.int .i64 x')), (8, .lit (.int .u64 K')), (9, .lit (.int .i64 y')), (10, .lit (.int .u64 q)), (11, .lit (.int .u64 r)), (12, .lit (.int .i64 ti))], []⟩ ∧
          mm = (62 - ti).toNat ∧ ti = t ∧ t ≤ 62 ∧ q * K' + r = M' * ((2 ^ t : Nat) : Int) ∧ 0 ≤ r ∧ r < K' ∧ 0 ≤ q ∧ q + 1 ≤ 2 * ((2 ^ t : Nat) : Int))
        (fun mm st hs' ih => ?_) ⟨_, _, 0, 0, rfl, rfl, rfl, by omega, ?_, ?_, ?_, ?_, ?_⟩
      rotate_left
      · simp only [Nat.pow_zero, Int.natCast_one, Int.mul_one]; first | omega | (simp (disch := omega) only [hA, CE] <;> omega)
      · first | omega | (simp (disch := omega) only [hA, CE] <;> omega)
      · first | omega | (simp (disch := omega) only [hA, CE] <;> omega)
      · first | omega | (simp (disch := omega) only [hA, OK, Ba, Int.reduceToNat, Cq, CE, BZ, CQ, Gj, C0, Cd, Dj] <;> omega)
      · simp only [Nat.pow_zero, Int.natCast_one, Int.mul_one]; first | omega | (simp (disch := omega) only [hA, OK, Ba, Int.reduceToNat, Cq, CE, BZ, CQ, Gj, C0, Cd, Dj] <;> omega)
      obtain ⟨q, r, ti, t, rfl, hmm3, hti, ht62, hqr, hr0, hrk, hq0, hqb⟩ := hs'
      have hpt := Kr (a := t) (b := 62) ht62
      have hp62 : ((2 ^ 62 : Nat) : Int) = 4611686018427387904 := rfl
      have hps := pow_succ t
      obtain ⟨p, hp⟩ : ∃ p : Int, p = ((2 ^ t : Nat) : Int) := ⟨_, rfl⟩
      rw [← hp] at hqr hqb hpt hps
      rw [hp62] at hpt
      have hlt3 : t < 62 → 2 * p ≤ 4611686018427387904 := fun h => by
        have := Kr (a := t + 1) (b := 62) h
        rw [hps, hp62] at this; exact this
      by_cases hd3 : ti < 62
      · have hlt4 := hlt3 (by omega)
        have hst := Hid.mk (fun (q2 r2 : Int) (hc : (q2 = 2 * q + 1 ∧ r2 = 2 * r - K') ∨ (q2 = 2 * q ∧ r2 = 2 * r)) => Sv hqr hc)
        with_reducible refine Bf hA hd hQ 200 ?hk ?_
        case hk => trivial
        conv => arg 9; cbv
        try simp only [OK]
        repeat' first | (with_reducible refine OKK.again ?_) | ((with_reducible refine ⟨fun hbr => ?_, fun hbr => ?_⟩) <;> (try simp (disch := omega) only [hA, Ba, BZ] at hbr) <;> (try (with_reducible exfalso; omega))) | ((with_reducible refine Be hA hd hQ 200 ?hk ?_); (case hk => trivial); (conv => arg 9; cbv); (try simp only [OK]))
        all_goals
          refine oK_ (msk 118 [5, 6, 7, 8, 9, 10, 11, 12]) (OKs.mv [] [] (by rw [hρ]; rfl) ⟨by simp, by simp [Bd], by simp⟩ (ih _ _ ⟨_, _, A.ib .add .i64 ti 1, t + 1, rfl, rfl, ?_, by omega, ?_, ?_, ?_, ?_, ?_⟩ ?_))
          · simp (disch := omega) only [hA, Ba] <;> omega
          · rw [hps, show M' * (2 * p) = 2 * (M' * p) by rw [Int.mul_left_comm]]
            refine hst.out _ _ ?_
            simp (disch := omega) only [hA, Cq, CE, BZ] <;> omega
          · simp (disch := omega) only [hA, CE, BZ] <;> omega
          · simp (disch := omega) only [hA, CE, BZ] <;> omega
          · simp (disch := omega) only [hA, Cq, BZ] <;> omega
          · rw [hps]; simp (disch := omega) only [hA, Cq, BZ] <;> omega
          · simp (disch := omega) only [hA, Ba] <;> omega
      · have et : t = 62 := by omega
        subst et
        rw [hp, hp62] at hqr
        clear ih
        have hnat : q.toNat * (k * 2 ^ j) + r.toNat = m * 2 ^ i * 2 ^ 62 := by
          have : ((q.toNat * (k * 2 ^ j) + r.toNat : Nat) : Int) = ((m * 2 ^ i * 2 ^ 62 : Nat) : Int) := by
            rw [Int.natCast_add, Int.natCast_mul q.toNat, Int.natCast_mul (m * 2 ^ i), ← hM', ← hK', Int.toNat_of_nonneg hq0, Int.toNat_of_nonneg hr0, hp62]
            exact hqr
          exact Int.ofNat.inj this
        obtain ⟨fX, fQ⟩ := f8'.out i j (m * 2 ^ i) (k * 2 ^ j) q.toNat r.toNat rfl rfl (by omega) (by omega) (by omega) (by omega) hnat (by omega)
        have h00 : rU 0 := by unfold rU; omega
        have hqr2 : rU q := by unfold rU; omega
        have hneq := V8 r hr0
        clear f8' hnat hqr
        with_reducible refine Bf hA hd hQ 200 ?hk ?_
        case hk => trivial
        conv => arg 9; cbv
        try simp only [OK]
        repeat' first | ((with_reducible refine ⟨fun hbr => ?_, fun hbr => ?_⟩) <;> (try simp (disch := omega) only [hA, Ba] at hbr) <;> (try (with_reducible exfalso; omega))) | ((with_reducible refine Be hA hd hQ 200 ?hk ?_); (case hk => trivial); (conv => arg 9; cbv); (try simp only [OK]))
        refine cO (Bi F240_ok) (tM (Vm _ sx _ (r.toNat != 0) 0 q _ (x - i - (y - j) - 62) q.toNat (by rw [hu]; simp (disch := omega) only [hA, Ba, hsne]) (by rw [← hneq]; simp (disch := omega) only [hA, Ba]) (by simp (disch := omega) only [hA, Ba] <;> omega) h00 hqr2 (by omega) (by omega) (fun _ => fQ) (by omega) _) fun v hh hx => ?_)
        obtain ⟨⟨z, hv, hz⟩, hh'⟩ := hx
        subst hv; subst hh'
        with_reducible refine Be hA hd hQ 1 ?hk ?_
        case hk => trivial
        conv => arg 9; cbv
        try simp only [OK]
        repeat' first | ((with_reducible refine Be hA hd hQ 200 ?hk ?_); (case hk => trivial); (conv => arg 9; cbv); (try simp only [OK]))
        refine fI_ rfl (BO ?_)
        rw [hz, fX]
def fN(op:Int)(a b:Nat):Nat:=
 if op=1 then BI a b else if op=2 then (Ieee.double.sub a b).getD Fl.nanW else if op=3 then B9 a b else B7 a b
def uI(n:Int):Nat:=(n%18446744073709551616).toNat
def fI(op n m:Int):Int:=stdA.wr .i64 (fN op (uI n) (uI m))
theorem UK(a b:Nat)(ha:a<18446744073709551616)(hb:b<18446744073709551616):stdA.ib .xor .u64 (a:Int) (b:Int)=((a ^^^ b:Nat):Int):=by
 show IntKind.u64.wrap _=_
 have e1:∀m:Nat,m<18446744073709551616->(BitVec.ofInt IntKind.u64.bits (m:Int)).toNat=m:=fun m hm=>by
  show (BitVec.ofInt 64 (m:Int)).toNat=m;rw[BitVec.ofInt_natCast,BitVec.toNat_ofNat];exact Nat.mod_eq_of_lt (by omega)
 rw[BitVec.toNat_xor,e1 a ha,e1 b hb]
 exact GI _ (Nat.xor_lt_two_pow (n:=64) ha hb)
theorem VS(x:Nat)(hx:x<2^64):x ^^^ 2^63=if 2^63<=x then x-2^63 else x+2^63:=by
 have hb:x.testBit 63=decide (2^63<=x):=by
  rw[Nat.testBit_eq_decide_div_mod_eq];exact decide_eq_decide.2 (by omega)
 by_cases h:2^63<=x
 ·rw[if_pos h]
  have e:x=2^63*1+(x-2^63):=by omega
  have e2:2^63*1+(x-2^63)=2^63*1 ||| (x-2^63):=Nat.two_pow_add_eq_or_of_lt (by omega) 1
  have hl:x-2^63<2^63:=by omega
  apply Nat.eq_of_testBit_eq;intro i;rw[Nat.testBit_xor,Nat.testBit_two_pow]
  by_cases hi:63=i
  ·subst hi
   rw[hb,Nat.testBit_lt_two_pow hl];simp[h]
  ·have:x.testBit i=(x-2^63).testBit i:=by
    have:=congrArg (fun q=>Nat.testBit q i) (e.trans e2)
    simp only[Nat.testBit_or,Nat.mul_one,Nat.testBit_two_pow,hi,decide_false,Bool.false_or]at this;exact this
   rw[this];simp[hi]
 ·rw[if_neg h]
  have e2:2^63*1+x=2^63*1 ||| x:=Nat.two_pow_add_eq_or_of_lt (by omega) 1
  rw[show x+2^63=2^63*1+x by omega,e2]
  apply Nat.eq_of_testBit_eq;intro i;rw[Nat.testBit_xor,Nat.testBit_or,Nat.mul_one,Nat.testBit_two_pow]
  by_cases hi:63=i
  ·subst hi
   rw[hb];simp[h]
  ·simp[hi]
theorem TG(a b:Nat)(hb:b<2^64):(Ieee.double.sub a b).getD Fl.nanW=BI a (b ^^^ 2^63):=by
 unfold BI
 rw[Fl.sub_add hb (b ^^^ 2^63) (VS b hb)]
theorem at2{f:FuncId}{a b p q:Int}{R:EH->EV->EH->Prop}(k:∀h,Tri Tryz.prog gs f [.lit (.int .u64 a),.lit (.int .u64 b)] h (R h))(e1:p=a)(e2:q=b)(h:EH):Tri Tryz.prog gs f [.lit (.int .u64 p),.lit (.int .u64 q)] h (R h):=by
 subst e1;subst e2;exact k h
theorem WL(op n m:Int)(hop:1<=op/\op<=4)(h:EH) :
  Tri Tryz.prog gs 115 [.lit (.int .i64 op),.lit (.int .i64 n),.lit (.int .i64 m)] h fun v h'=>v = .lit (.int .i64 (fI op n m))/\h'=h:=by
 obtain⟨a,ha⟩:∃q:Int,q=n%18446744073709551616:=⟨_,rfl⟩
 obtain⟨b,hb⟩:∃q:Int,q=m%18446744073709551616:=⟨_,rfl⟩
 have hla:∀A,A=stdA->A.wr .u64 n=a:=fun A hA=>by rw[hA,CQ,ha]
 have hlb:∀A,A=stdA->A.wr .u64 m=b:=fun A hA=>by rw[hA,CQ,hb]
 have ra:rU a:=by unfold rU;omega
 have rb:rU b:=by unfold rU;omega
 obtain⟨c,hc⟩:∃q:Int,q=((b.toNat ^^^ 2^63:Nat):Int):=⟨_,rfl⟩
 have rb2:=rb
 unfold rU at rb2
 have hcx:stdA.ib .xor .u64 b 9223372036854775808=c:=by
  have:=UK b.toNat (2^63) (by omega) (by omega)
  rw[Int.toNat_of_nonneg rb2.1]at this;rw[hc,<-this];rfl
 have rc:rU c:=by
  have:=Nat.xor_lt_two_pow (n:=64) (show b.toNat<2^64 by omega) (show 2^63<2^64 by omega)
  unfold rU;omega
 have k1:=P8 a b ra rb
 have k2:=P8 a c ra rc
 have k3:=Ta a b ra rb
 have k4:=Wq a b ra rb
 have e1:op=1->fN op (uI n) (uI m)=BI a.toNat b.toNat:=fun e=>by unfold fN uI;rw[if_pos e,ha,hb]
 have e2:op=2->fN op (uI n) (uI m)=BI a.toNat c.toNat:=fun e=>by
  unfold fN uI;rw[if_neg (by omega),if_pos e,TG _ _ (by omega),hc,Int.toNat_natCast,ha,hb]
 have e3:op=3->fN op (uI n) (uI m)=B9 a.toNat b.toNat:=fun e=>by unfold fN uI;rw[if_neg (by omega),if_neg (by omega),if_pos e,ha,hb]
 have e4:op=4->fN op (uI n) (uI m)=B7 a.toNat b.toNat:=fun e=>by unfold fN uI;rw[if_neg (by omega),if_neg (by omega),if_neg (by omega),ha,hb]
 unfold fI
 generalize fN op (uI n) (uI m)=Z at *
 generalize BI a.toNat b.toNat=Z1,BI a.toNat c.toNat=Z2,B9 a.toNat b.toNat=Z3,B7 a.toNat b.toNat=Z4 at *
 obtain⟨z,hz⟩:∃q:Int,q=Z:=⟨_,rfl⟩
 have f1:Hid (op=1->((Z1:Nat):Int)=z):=fun e=>by rw[hz,e1 e]
 have f2:Hid (op=2->((Z2:Nat):Int)=z):=fun e=>by rw[hz,e2 e]
 have f3:Hid (op=3->((Z3:Nat):Int)=z):=fun e=>by rw[hz,e3 e]
 have f4:Hid (op=4->((Z4:Nat):Int)=z):=fun e=>by rw[hz,e4 e]
 generalize ((Z1:Nat):Int)=z1,((Z2:Nat):Int)=z2,((Z3:Nat):Int)=z3,((Z4:Nat):Int)=z4 at *
 rw[<-hz]
 clear e1 e2 e3 e4 hz hc ha hb
 refine Tri.valA rfl rfl (Bk F115_ok fun I0 ρ0 w0' Q hρ hQ=>?_) h
 obtain⟨A,hA⟩:∃A,A=stdA:=⟨_,rfl⟩
 have hla:=hla A hA
 have hlb:=hlb A hA
 have hlc:A.ib .xor .u64 (A.wr .u64 m) 9223372036854775808=c:=by rw[hlb,hA];exact hcx
 with_reducible refine Bf hA hd hQ 200 ?hk ?_
 case hk=>trivial
 conv=>arg 9;cbv
 try simp only[OK]
 repeat' first|((with_reducible refine⟨fun hbr=>?_,fun hbr=>?_⟩)<;>(try simp(disch:=omega)only[hA,Ba]at hbr)<;>(try (with_reducible exfalso;omega)))|((with_reducible refine Be hA hd hQ 200 ?hk ?_);(case hk=>trivial);(conv=>arg 9;cbv);(try simp only[OK]))|((with_reducible refine cO ?hg ?_);(case hg=>with_reducible exact Bi F169_ok);refine tM (at2 k1 hla hlb _) ?_;rintro _ _ ⟨rfl,rfl⟩)|((with_reducible refine cO ?hg ?_);(case hg=>with_reducible exact Bi F169_ok);refine tM (at2 k2 hla hlc _) ?_;rintro _ _ ⟨rfl,rfl⟩)|((with_reducible refine cO ?hg ?_);(case hg=>with_reducible exact Bi F170_ok);refine tM (at2 k3 hla hlb _) ?_;rintro _ _ ⟨rfl,rfl⟩)|((with_reducible refine cO ?hg ?_);(case hg=>with_reducible exact Bi F171_ok);refine tM (at2 k4 hla hlb _) ?_;rintro _ _ ⟨rfl,rfl⟩)
 all_goals
  refine fI_ rfl (BO ?_)
  first
   |(show A.wr .i64 z1=_;rw[hA,f1.out (by omega)])
   |(show A.wr .i64 z2=_;rw[hA,f2.out (by omega)])
   |(show A.wr .i64 z3=_;rw[hA,f3.out (by omega)])
   |(show A.wr .i64 z4=_;rw[hA,f4.out (by omega)])
theorem Yo(n:Int)(w:World):(callFunc 133 #[.int .u64 n]).run Tryz.prog w = .ok (.value (.float .f64 n.toNat)) w:=by kernel_rfl
theorem SC(b:Nat)(w:World):(callFunc 134 #[.float .f64 b]).run Tryz.prog w = .ok (.value (.int .u64 b)) w:=by kernel_rfl
def okW(r:Nat):Prop:=r%2^63<=Fl.infW/\r<2^64
theorem Nl(s:Bool)(q:Nat)(h:q<=Fl.infW):okW (Ieee.double.word s q):=by
 rw[Fl.word_eq];unfold okW;unfold Fl.infW at *
 cases s
 ·simp;omega
 ·simp;omega
theorem TS(n:Nat)(x:Int):Fl.rnd n x<=Fl.infW:=by
 unfold Fl.rnd Fl.infW
 split
 ·omega
 ·exact Nat.min_le_right _ _
theorem Tn(d:Ieee.Datum)(h:d.isNaN=false):okW (Ieee.double.write d):=by
 cases d with
 |number s m x=>rw[Fl.write_num];exact Nl _ _ (TS _ _)
 |infinity s=>simp only[Ieee.Format.write,Fl.infR];exact Nl _ _ (Nat.le_refl _)
 |nan s f=>simp[Ieee.Datum.isNaN]at h
theorem PS{d e g:Ieee.Datum}(h:d.sum e=some g):g.isNaN=false:=by
 cases d<;>cases e<;>simp only[Ieee.Datum.sum]at h
 all_goals first
  |cases h;rfl
  |(split at h<;>cases h<;>rfl)
  |cases h
theorem W6{d e g:Ieee.Datum}(h:d.product e=some g):g.isNaN=false:=by
 cases d<;>cases e<;>simp only[Ieee.Datum.product]at h
 all_goals first
  |cases h;rfl
  |(split at h<;>cases h<;>rfl)
  |cases h
theorem Yn {k : Nat} {d e g : Ieee.Datum} (h : d.quotient k e = some g) : g.isNaN = false := by
  cases d <;> cases e <;> simp only [Ieee.Datum.quotient] at h
  all_goals first
    | cases h; rfl
    | cases h
    | (split at h
       · split at h <;> cases h <;> rfl
       · cases h; rfl)
theorem HW{o:Option Ieee.Datum}{r:Nat}(h:o.map Ieee.double.write=some r)(k:∀g,o=some g->g.isNaN=false):okW r:=by
 cases o with
 |none=>cases h
 |some g=>cases h;exact Tn g (k g rfl)
theorem Vj{op:BinOp}{x y r:Nat}(h:floatBits op .f64 x y=some r):okW r:=by
 unfold floatBits at h
 split at h
 ·exact HW h fun g hg=>PS hg
 ·exact HW h fun g hg=>PS hg
 ·exact HW h fun g hg=>W6 hg
 ·exact HW h fun g hg=>Yn hg
 ·cases h
theorem Yf{r:Nat}(h:okW r):(FloatKind.f64.format.order r r==some .eq)=true:=by
 show (Ieee.double.order r r==some .eq)=true
 unfold Ieee.Format.order
 rcases Nat.lt_or_ge (r%2^63) Fl.infW with h1|h1
 ·rw[Fl.read_fin h.2 h1]
  simp only[Ieee.Datum.order]
  have:compare (Ieee.signed (Fl.neg r) (Fl.mant r) (Fl.plc r-min (Fl.plc r) (Fl.plc r)).toNat) (Ieee.signed (Fl.neg r) (Fl.mant r) (Fl.plc r-min (Fl.plc r) (Fl.plc r)).toNat) = .eq:=by
   rw[Int.compare_eq_eq]
  rw[this];rfl
 ·rw[Fl.read_inf h.2 (by have:=h.1;omega)]
  simp only[Ieee.Datum.order];cases Fl.neg r<;>rfl
theorem SU{r:Nat}(h:Fl.infW<r%2^63):(FloatKind.f64.format.order r r==some .eq)=false:=by
 show (Ieee.double.order r r==some .eq)=false
 unfold Ieee.Format.order
 obtain⟨s,f,e⟩:=Fl.read_nan h
 rw[e];simp[Ieee.Datum.order]
theorem Yq{P:Program}(w:World)(op:BinOp)(hop:op = .add\/op = .sub\/op = .mul\/op = .quo)(t:TypeId)(x y:Nat)(h:floatBits op .f64 x y=none) :
  ∃c,Fl.infW<c%2^63/\(binOp op t (.float .f64 x) (.float .f64 y)).run P w = .ok (.float .f64 c) w.drew:=by
 refine⟨(Question.nanBits .f64 x y).cut (w.tape w.drawn (.nanBits .f64 x y)),?_,?_⟩
 ·simp only[Question.cut]
  generalize w.tape w.drawn (.nanBits .f64 x y)=t;have:t/2%(2^52-1)<2^52-1:=Nat.mod_lt _ (by omega)
  have h2:t%2<2:=Nat.mod_lt _ (by omega)
  obtain⟨q,hq⟩:∃q,q=t/2%(2^52-1):=⟨_,rfl⟩;obtain⟨p,hp⟩:∃p,p=t%2:=⟨_,rfl⟩;rw[<-hq]at this ⊢;rw[<-hp]at h2 ⊢;unfold Fl.infW;omega
 ·unfold floatBits at h
  rcases hop with rfl|rfl|rfl|rfl<;>simp only at h<;>simp[binOp,Op.floatArith,h,Question.forced]
theorem WI(n:Int):stdA.wr .i64 n=RowKit.wrap64 n:=by
 unfold RowKit.wrap64
 exact Gj n
theorem US(op:Int)(bop:BinOp)(h:(op=1/\bop = .add)\/(op=2/\bop = .sub)\/(op=3/\bop = .mul)\/(op=4/\bop = .quo))(a b:Nat):fN op a b=(floatBits bop .f64 a b).getD Fl.nanW:=by
 rcases h with ⟨rfl,rfl⟩|⟨rfl,rfl⟩|⟨rfl,rfl⟩|⟨rfl,rfl⟩<;>rfl
theorem W9(op:Int)(bop:BinOp)(hop:(op=1/\bop = .add)\/(op=2/\bop = .sub)\/(op=3/\bop = .mul)\/(op=4/\bop = .quo))(a b:Int)(w:World) :
  Calls Tryz.prog 79 #[.int .i64 op,.int .i64 a,.int .i64 b] w fun e w'=>e = .returned (.agg #[.bool false,.int .i64 (fI op a b),.string ⟨#[]⟩,.slice none 0 0])/\∃c,w'=w.alloc (.cells c 43)\/w'=(w.alloc (.cells c 43)).drew:=by
 have c1:=Yo
 have c2:=SC
 have hf:fI op a b=stdA.wr .i64 ((floatBits bop .f64 (IntKind.u64.wrap a).toNat (IntKind.u64.wrap b).toNat).getD Fl.nanW:Nat):=by
  unfold fI;rw[US op bop hop];rfl
 rw[hf]
 clear hf
 obtain⟨x,hx⟩:∃x,x=(IntKind.u64.wrap a).toNat:=⟨_,rfl⟩
 obtain⟨y,hy⟩:∃y,y=(IntKind.u64.wrap b).toNat:=⟨_,rfl⟩
 rw[<-hx,<-hy]
 cases hb:floatBits bop .f64 x y with
 |some r=>
  rw[show stdA.wr .i64 (((some r).getD Fl.nanW:Nat):Int)=RowKit.wrap64 (r:Int)from WI (r:Int)];have ok:=Vj hb;have ho:=Yf ok;have hr:=fun w t=>run_float_arith (P:=Tryz.prog) w bop t .f64 x y r hb
  rw[hx,hy]at hr;clear hb hx hy;rcases hop with ⟨rfl,rfl⟩|⟨rfl,rfl⟩|⟨rfl,rfl⟩|⟨rfl,rfl⟩
  all_goals
   go_enter Tryz.func79,Tryz.ntmps79
   go_wp2
   all_goals first
    |(exfalso;simp_all;done)
    |exact bodyPost_ret (results_cell_row rfl _ _ w.heap.size 43 _ (0,0) _ rfl (heap_alloc_new _ _) Tryz.underlying43 rfl (by kernel_rfl)) rfl ⟨rfl,_,.inl rfl⟩
    |trace_state
 |none=>
  rw[show stdA.wr .i64 (((none:Option Nat).getD Fl.nanW:Nat):Int)=9221120237041090560 from Gj _];have hr:=fun w=>Yq (P:=Tryz.prog) w bop (by rcases hop with ⟨_,h⟩|⟨_,h⟩|⟨_,h⟩|⟨_,h⟩<;>simp[h]) 159 x y hb
  rw[hx,hy]at hr;clear hb hx hy;obtain⟨c,hc,hr⟩:=hr (w.alloc (.cells #[.bool false,.int .i64 0,.string ⟨#[]⟩,.slice none 0 0] 43));have ho:=SU hc;rcases hop with ⟨rfl,rfl⟩|⟨rfl,rfl⟩|⟨rfl,rfl⟩|⟨rfl,rfl⟩
  all_goals
   go_enter Tryz.func79,Tryz.ntmps79
   go_wp2
   all_goals first
    |(exfalso;simp_all;done)
    |exact bodyPost_ret (results_cell_row rfl _ _ w.heap.size 43 _ (0,0) _ rfl (heap_alloc_new _ _) Tryz.underlying43 rfl (by kernel_rfl)) rfl ⟨rfl,_,.inr rfl⟩
    |trace_state
def nV(n:Int):EV:=.agg [.lit (.bool false),.lit (.int .i64 n),.lit (.string ⟨#[]⟩),.lit (.slice none 0 0)]
theorem TH:BU Tryz.prog 79=true:=by kernel_rfl
theorem S5(op n m:Int)(hop:1<=op/\op<=4)(h:EH) :
  Tri Tryz.prog gs 79 [.lit (.int .i64 op),.lit (.int .i64 n),.lit (.int .i64 m)] h fun v h'=>v=nV (fI op n m)/\h'=h:=by
 intro I ρ w cargs hI hs ha hg
 have hc:cargs = #[.int .i64 op,.int .i64 n,.int .i64 m]:=by
  match cargs,ha with
  |⟨[x,y,z]⟩,ha=>
   obtain⟨h1,h2,h3,_⟩:=ha;cases h1;cases h2;cases h3;rfl
 subst hc
 obtain⟨bop,hb⟩:∃bop:BinOp,(op=1/\bop = .add)\/(op=2/\bop = .sub)\/(op=3/\bop = .mul)\/(op=4/\bop = .quo):=by
  rcases (show op=1\/op=2\/op=3\/op=4 by omega)with h|h|h|h
  ·exact⟨.add,.inl ⟨h,rfl⟩⟩
  ·exact⟨.sub,.inr (.inl ⟨h,rfl⟩)⟩
  ·exact⟨.mul,.inr (.inr (.inl ⟨h,rfl⟩))⟩
  ·exact⟨.quo,.inr (.inr (.inr ⟨h,rfl⟩))⟩
 refine(W9 op bop hb n m w).mono fun e w' ⟨h1,c,h2⟩=>?_
 have hk:Keep I w w':=by
  rcases h2 with rfl|rfl
  ·exact .alloc w _ hI
  ·exact(Keep.alloc w _ hI).trans (.drew I _)
 have hs':HSim I w' ρ h:=hs.keep hk (fun id b o hd hb=>by
  obtain⟨b',ob,hb',_,hbl⟩:=OS.lt (hs.live id) hd;rw[hb]at hb';cases hb';rcases h2 with rfl|rfl<;>exact Gd w _ hbl)
 refine⟨_,_,h,I,[],h1,⟨rfl,rfl⟩,Imm.le.refl I,fun b hb=>Nat.lt_of_lt_of_le (hI b hb) hk.size,by simpa using hs',?_,hk⟩
 refine .agg _ _ _ rfl fun j x v hx hv=>?_
 match j,hx,hv with
 |0,hx,hv=>simp at hx hv;subst hx;subst hv;exact .lit _ _
 |1,hx,hv=>simp at hx hv;subst hx;subst hv;exact .lit _ _
 |2,hx,hv=>simp at hx hv;subst hx;subst hv;exact .lit _ _
 |3,hx,hv=>simp at hx hv;subst hx;subst hv;exact .lit _ _
 |j+4,hx,hv=>simp at hx
def bxC(F:List EV)(r W:Int)(vd fx:EV):List EV:=F++[.lit (.int .i64 r),.lit (.int .i64 0),.lit (.int .i64 W),vd,.lit (.slice none 0 0),fx,.lit (.slice none 0 0),.lit (.slice none 0 0),.lit (.slice none 0 0),.lit (.slice none 0 0),.lit (.slice none 0 0),.lit (.slice none 0 0)]
theorem CU{l m:List EV}(h:clL l=true)(k:clL m=true):clL (l++m)=true:=Ju fun x hx=>by
 rcases List.mem_append.1 hx with q|q
 ·obtain⟨j,hj⟩:=List.getElem?_of_mem q;exact Ek h j x hj
 ·obtain⟨j,hj⟩:=List.getElem?_of_mem q;exact Ek k j x hj
def Bu:List Int->List EV
 |[]=>[]
 |n::l=>nC n++Bu l
def Bq:List Int->List Nat
 |[]=>[]
 |n::l=>leB n 8++Bq l
theorem Dw:∀l:List Int,(Bu l).length=4*l.length
 |[]=>rfl
 |n::l=>by simp only[Bu,List.length_append,Dw l,List.length_cons];simp[nC];omega
theorem C3:∀l:List Int,(Bq l).length=8*l.length
 |[]=>rfl
 |n::l=>by simp only[Bq,List.length_append,C3 l,List.length_cons,CP];omega
theorem P9:∀(l m:List Int),Bq (l++m)=Bq l++Bq m
 |[],m=>rfl
 |n::l,m=>by simp only[lC,Bq,P9 l m,lA]
theorem L5(l:List Int)(i:Nat)(h:i<l.length):Bq (l.take (i+1))=Bq (l.take i)++leB (l.getD i 0) 8:=by
 rw[List.take_add_one,lE h,P9]
 simp[Bq,lG,lE h]
theorem E3:∀(l:List Int) (i:Nat),i<l.length->List.take 4 (List.drop (i*4) (Bu l))=nC (l.getD i 0)
 |[],i,h=>by simp at h
 |n::l,0,h=>by simp[Bu,nC]
 |n::l,i+1,h=>by
  have:=E3 l i (by simpa using h)
  rw[show (i+1)*4=4+i*4 by omega,<-List.drop_drop,show List.drop 4 (Bu (n::l))=Bu l from rfl,this]
  simp
theorem IF:∀l:List Int,AllB (Bq l)
 |[]=>AllB.nil
 |n::l=>by
  intro x hx;rcases List.mem_append.1 (show x∈leB n 8++Bq l from hx)with h|h
  ·exact Na 8 n x h
  ·exact IF l x h
theorem Wf {F : List EV} (hF : F = fC ∨ F = fD) (ns : List Int) (hn : ns.length ≤ 4096) :
    Tri Tryz.prog gs 10 [.agg F, .isl ns.length none (Bu ns)] [] fun v h' => ∃ (i j k : Nat) (c1 c2 c3 : Option Nat), v = .tup [.agg [.lit (.int .i64 ns.length), .lit (.int .i64 0), .lit (.int .i64 0), .sl 1 i 0 2 c1, .lit (.slice none 0 0), .lit (.slice none 0 0)], .lit (.int .i64 0), .lit (.int .i64 0)] ∧
      i ≠ j ∧ i ≠ k ∧ j ≠ k ∧ Bh h' i = .blk [.sl 1 j 0 0 c2, .sl 1 k 0 (8 * ns.length) c3] ∧ Bh h' j = .blk [] ∧ Bh h' k = .blk (Bj (Bq ns)) := by
  have hget := Hid.mk (E3 ns);have hmore := Hid.mk (L5 ns);obtain ⟨len, hlen⟩ : ∃ q, q = ns.length := ⟨_, rfl⟩;obtain ⟨C, hC⟩ : ∃ q, q = Bu ns := ⟨_, rfl⟩;rw [← hlen, ← hC];have hmb := LC hF;have hfr := UM hF;obtain ⟨FF, hFF⟩ : ∃ q, q = F := ⟨_, rfl⟩;rcases hF with rfl | rfl
  all_goals
    first | unfold fC | unfold fD
    refine Bk F10_ok fun I0 ρ0 w0 Q hρ1 hQ => ?_
    obtain ⟨A, hA⟩ : ∃ A, A = stdA := ⟨_, rfl⟩
    with_reducible refine Bf hA hd hQ 200 ?hk ?_
    case hk => trivial
    conv => arg 9; cbv
    try simp only [OK]
    repeat' first | ((with_reducible refine ⟨fun hbr => ?_, fun hbr => ?_⟩) <;> (try simp (disch := omega) only [hA, Ba, reduceCtorEq] at hbr) <;> (try (with_reducible exfalso; omega))) | ((with_reducible refine Be hA hd hQ 200 ?hk ?_); (case hk => trivial); (conv => arg 9; cbv); (try simp only [OK])) | ((with_reducible refine cO ?hg ?_); (case hg => with_reducible exact Bi F21_ok); refine tM (hmb _) ?_; rintro _ _ ⟨rfl, rfl⟩)
    have hQ1 := hQ;refine cO (Bi F22_ok) (Bk F22_ok fun I0 ρ0 w0 Q hρ2 hQ => ?_)
    with_reducible refine Bf hA hd hQ 200 ?hk ?_
    case hk => trivial
    conv => arg 9; cbv
    try simp only [OK]
    repeat' first | (with_reducible refine OKK.loop ?_)
    refine OKs.loopU ?_
    with_reducible refine Bf hA hd hQ 200 ?hk ?_
    case hk => trivial
    conv => arg 9; cbv
    try simp only [OK]
    repeat' first | ((with_reducible refine ⟨fun hbr => ?_, fun hbr => ?_⟩) <;> (try simp (disch := omega) only [hA, Ba] at hbr) <;> (try (with_reducible exfalso; omega))) | ((with_reducible refine Be hA hd hQ 200 ?hk ?_); (case hk => trivial); (conv => arg 9; cbv); (try simp only [OK]))
    refine fI_ rfl ?_;replace hQ := hQ1
    with_reducible refine Be hA hd hQ 1 ?hk ?_
    case hk => trivial
    conv => arg 9; cbv
    try simp only [OK]
    repeat' first | (with_reducible refine OKK.loop ?_) | ((with_reducible refine Be hA hd hQ 200 ?hk ?_); (case hk => trivial); (conv => arg 9; cbv); (try simp only [OK]))
    refine oK_ (msk 35 [1, 4, 5, 6, 7, 8]) (OKs.mv [1, 3] [] (by rw [hρ1]; rfl) ⟨by decide, by simp [Bd], by simp⟩ ?_)
    refine oL_ (fun m st => ∃ (z r W : Int) (N M : Nat) (vc c : List EV), m = ((len : Int) - z).toNat ∧ 0 ≤ z ∧ z ≤ len ∧ r = z ∧ W = 16 * z ∧ N = z.toNat ∧ M = 8 * z.toNat ∧ vc.length = N ∧ clL vc = true ∧ c = Bj (Bq (ns.take z.toNat)) ∧
        ((z = 0 ∧ st = ⟨mkT 35 [(1, .isl len none C), (4, .ptr 0 0), (5, .lit (.int .i64 0)), (6, .lit (.int .i64 0)), (7, .ptr 1 0), (8, .lit (.int .i64 z))], [.blk [.lit (.int .i64 0), .lit (.int .i64 0), .lit (.int .i64 0), .lit (.slice none 0 0), .lit (.slice none 0 0), .lit (.slice none 0 0)], .blk (bxC FF r W (.lit (.slice none 0 0)) (.lit (.slice none 0 0)))]⟩) ∨
         (1 ≤ z ∧ st = ⟨mkT 35 [(1, .isl len none C), (4, .ptr 0 0), (5, .lit (.int .i64 0)), (6, .lit (.int .i64 0)), (7, .ptr 1 0), (8, .lit (.int .i64 z))], [.blk [.lit (.int .i64 0), .lit (.int .i64 0), .lit (.int .i64 0), .lit (.slice none 0 0), .lit (.slice none 0 0), .lit (.slice none 0 0)], .blk (bxC FF r W (.sl 1 2 0 N none) (.sl 1 3 0 M none)), .blk vc, .blk c]⟩)))
      (fun m st hs' ih => ?_) ⟨0, 0, 0, 0, 0, [], [], rfl, by omega, by omega, rfl, rfl, rfl, rfl, rfl, rfl, rfl, .inl ⟨rfl, by rw [hFF]; rfl⟩⟩
    obtain ⟨z, r, W, N, M, vc, c, hm, hz0, hz1, hr, hW, hN, hM, hvl, hvc, hc, hst⟩ := hs';obtain ⟨l, hl⟩ : ∃ q, q = Bq (ns.take z.toNat) := ⟨_, rfl⟩;have hll : l.length = M := by rw [hl, C3, lK]; omega
    rw [← hl] at hc;have hcl : c.length = M := by rw [hc, Dd, hll]
    obtain ⟨n, hn'⟩ : ∃ q, q = ns.getD z.toNat 0 := ⟨_, rfl⟩
    have hL : z < len → List.take 4 (List.drop (A.idx 0 z 4) C) = nC n := fun h => by
      rw [hA, B0, Nat.zero_add, hC, hn']; exact hget.out _ (by omega)
    have hmr : z < len → Bq (ns.take (z.toNat + 1)) = l ++ leB n 8 := fun h => by rw [hl, hn']; exact hmore.out _ (by omega)
    have k1 := hfr n;have k2 := Nr n;have k3 := R7 l n 8 (by omega) (by omega) (by omega)
    have k4 := V5 n 8 (by omega) (by omega)
    have hmr := Hid.mk hmr;subst hFF;unfold bxC nC at *
    first | unfold fC at * | unfold fD at *
    clear hget hmore
    by_cases hzl : z < len
    · have hL := hL hzl
      rcases hst with ⟨hz2, rfl⟩ | ⟨hz2, rfl⟩
      all_goals
        with_reducible refine Bf hA hd hQ 200 ?hk ?_
        case hk => trivial
        conv => arg 9; cbv
        try simp only [OK]
        repeat' first | ((with_reducible refine ⟨fun hbr => ?_, fun hbr => ?_⟩) <;> (try simp (disch := omega) only [hA, Ba] at hbr) <;> (try (with_reducible exfalso; omega))) | ((with_reducible refine Be hA hd hQ 200 ?hk ?_); (case hk => trivial); (conv => arg 9; cbv); (try simp only [OK])) | ((with_reducible refine Bn ?hn ?_); (case hn => ((simp (disch := omega) only [hA, Ba]) <;> omega))) | ((refine ⟨_, _, ?l1, hL, rfl, ?_⟩); (case l1 => exact rfl))
        have hQ1 := hQ;refine cO (Bi F23_ok) (Bk F23_ok fun I0 ρ0 w0 Q hρ3 hQ => ?_)
        with_reducible refine Bf hA hd hQ 200 ?hk ?_
        case hk => trivial
        conv => arg 9; cbv
        try simp only [OK]
        repeat' first | ((with_reducible refine ⟨fun hbr => ?_, fun hbr => ?_⟩) <;> (try simp (disch := omega) only [hA, Ba, reduceCtorEq] at hbr) <;> (try (with_reducible exfalso; omega))) | ((with_reducible refine Be hA hd hQ 200 ?hk ?_); (case hk => trivial); (conv => arg 9; cbv); (try simp only [OK])) | ((with_reducible refine cO ?hg ?_); (case hg => with_reducible exact Bi F71_ok); (refine tM (k1 _) fun v hh hx => ?_); (obtain ⟨⟨b, hv, hb⟩, he⟩ := hx; subst hv; subst he; cases b <;> simp (disch := omega) only [not_true_eq_false, bF, false_iff, eq_self] at hb) <;> (try (with_reducible exfalso; omega)))
        have hQ2 := hQ;refine cO (Bi F72_ok) (Bk F72_ok fun I0 ρ0 w0 Q hρ2 hQ => ?_)
        with_reducible refine Bf hA hd hQ 200 ?hk ?_
        case hk => trivial
        conv => arg 9; cbv
        try simp only [OK]
        have hQ3 := hQ;refine cO (Bi F123_ok) (Bk F123_ok fun I0 ρ0 w0 Q hρ3 hQ => ?_)
        with_reducible refine Bf hA hd hQ 200 ?hk ?_
        case hk => trivial
        conv => arg 9; cbv
        try simp only [OK]
        repeat' first | (with_reducible refine And.intro trivial ?_) | ((with_reducible refine ⟨fun hbr => ?_, fun hbr => ?_⟩) <;> (try simp (disch := omega) only [hA, Ba, not_false_eq_true, reduceCtorEq] at hbr) <;> (try (with_reducible exfalso; omega))) | ((with_reducible refine Be hA hd hQ 200 ?hk ?_); (case hk => trivial); (conv => arg 9; cbv); (try simp only [OK])) | ((with_reducible refine Bn ?hn ?_); (case hn => ((simp (disch := omega) only [hA, Ba]) <;> omega))) | ((with_reducible refine cO ?hg ?_); (case hg => with_reducible exact Bi F121_ok); refine tM (k2 _) ?_; rintro _ _ ⟨rfl, rfl⟩) | ((with_reducible refine cO ?hg ?_); (case hg => with_reducible exact Bi F75_ok); refine tM (To _) ?_; rintro _ _ ⟨rfl, rfl⟩) | ((with_reducible refine cO ?hg ?_); (case hg => with_reducible exact Bi F124_ok); (refine tM (k3.callV rfl hll.symm hc rfl) fun v hh hx => ?_); (obtain ⟨M2, e2, hv, hh', hM2, he2⟩ := hx; subst hv; subst hh')) | ((with_reducible refine cO ?hg ?_); (case hg => with_reducible exact Bi F124_ok); (refine tM (k4.callV rfl _) fun v hh hx => ?_); (obtain ⟨M2, e2, hv, hh', hM2, he2⟩ := hx; subst hv; subst hh'))
        refine fI_ rfl ?_;replace hQ := hQ3
        with_reducible refine Be hA hd hQ 1 ?hk ?_
        case hk => trivial
        conv => arg 9; cbv
        try simp only [OK]
        repeat' first | ((with_reducible refine ⟨fun hbr => ?_, fun hbr => ?_⟩) <;> (try simp (disch := omega) only [hA, Ba, not_true_eq_false] at hbr) <;> (try (with_reducible exfalso; omega))) | ((with_reducible refine Be hA hd hQ 200 ?hk ?_); (case hk => trivial); (conv => arg 9; cbv); (try simp only [OK]))
        refine fI_ rfl ?_;replace hQ := hQ2
        with_reducible refine Be hA hd hQ 1 ?hk ?_
        case hk => trivial
        conv => arg 9; cbv
        try simp only [OK]
        repeat' first | ((with_reducible refine Be hA hd hQ 200 ?hk ?_); (case hk => trivial); (conv => arg 9; cbv); (try simp only [OK]))
        refine fI_ rfl ?_;replace hQ := hQ1
        with_reducible refine Be hA hd hQ 1 ?hk ?_
        case hk => trivial
        conv => arg 9; cbv
        try simp only [OK]
        repeat' first | (with_reducible refine OKK.again ?_) | ((with_reducible refine ⟨fun hbr => ?_, fun hbr => ?_⟩) <;> (try simp (disch := omega) only [hA, Ba] at hbr) <;> (try (with_reducible exfalso; omega))) | ((with_reducible refine Be hA hd hQ 200 ?hk ?_); (case hk => trivial); (conv => arg 9; cbv); (try simp only [OK]))
      · have hv1 : A.tak (A.mul 1 1) (A.drp 0 [EV.lit (.int .u8 1)]) = [EV.lit (.int .u8 1)] := by rw [hA]; rfl
        have hvc2 : clL [EV.lit (.int .u8 1)] = true := rfl;have hvl2 : [EV.lit (.int .u8 1)].length = 1 := rfl;refine oK_ (msk 35 [1, 4, 5, 6, 7, 8]) (OKs.mv [0, 1, 7, 8] [] (by rw [hρ1]; rfl) ⟨by decide, by simp [Bd], by simp⟩ (ih _ _ ⟨A.ib .add .i64 z 1, A.ib .add .i64 r 1, A.ib .add .i64 W 16, _, M2, _, _, rfl, ?_, ?_, ?_, ?_, ?_, ?_, ?_, ?_, ?_, .inr ⟨?_, rfl⟩⟩ ?_))
        · simp (disch := omega) only [hA, Ba] <;> omega
        · simp (disch := omega) only [hA, Ba] <;> omega
        · simp (disch := omega) only [hA, Ba] <;> omega
        · simp (disch := omega) only [hA, Ba] <;> omega
        · simp (disch := omega) only [hA, Ba] <;> omega
        · rw [hM2]; simp only [CP]; simp (disch := omega) only [hA, Ba] <;> omega
        · show (mvL _ _ (A.tak (A.mul 1 1) (A.drp 0 [EV.lit (.int .u8 1)]))).length = _
          rw [hv1, BA _ _ _ hvc2, hvl2]
        · show clL (mvL _ _ (A.tak (A.mul 1 1) (A.drp 0 [EV.lit (.int .u8 1)]))) = true
          rw [hv1, BA _ _ _ hvc2]; exact hvc2
        · show mvL _ _ e2 = _
          rw [he2, C9, show (A.ib .add .i64 z 1).toNat = z.toNat + 1 by simp (disch := omega) only [hA, Ba] <;> omega, hmr.out hzl]
          try rw [show l = [] from List.length_eq_zero_iff.1 (by omega)]; rfl
        · simp (disch := omega) only [hA, Ba] <;> omega
        · simp (disch := omega) only [hA, Ba] <;> omega
      · have hv1 : A.app (A.tak (A.mul N 1) (A.drp 0 vc)) (A.tak (A.mul 1 1) (A.drp 0 [EV.lit (.int .u8 1)])) = vc ++ [EV.lit (.int .u8 1)] := by
          rw [hA]; simp only [HR, II, IR, IC, List.drop_zero]; rw [lT (by omega)]; rfl
        have hvc2 : clL (vc ++ [EV.lit (.int .u8 1)]) = true := CU hvc rfl;have hvl2 : (vc ++ [EV.lit (.int .u8 1)]).length = A.add N 1 := by rw [List.length_append, hvl, hA]; rfl
        refine oK_ (msk 35 [1, 4, 5, 6, 7, 8]) (OKs.mv [0, 1, 9, 10] [] (by rw [hρ1]; rfl) ⟨by decide, by simp [Bd], by simp⟩ (ih _ _ ⟨A.ib .add .i64 z 1, A.ib .add .i64 r 1, A.ib .add .i64 W 16, _, M2, _, _, rfl, ?_, ?_, ?_, ?_, ?_, ?_, ?_, ?_, ?_, .inr ⟨?_, rfl⟩⟩ ?_))
        · simp (disch := omega) only [hA, Ba] <;> omega
        · simp (disch := omega) only [hA, Ba] <;> omega
        · simp (disch := omega) only [hA, Ba] <;> omega
        · simp (disch := omega) only [hA, Ba] <;> omega
        · simp (disch := omega) only [hA, Ba] <;> omega
        · rw [hM2]; simp only [List.length_append, CP, hll]; simp (disch := omega) only [hA, Ba] <;> omega
        · show (mvL _ _ (A.app (A.tak (A.mul N 1) (A.drp 0 vc)) (A.tak (A.mul 1 1) (A.drp 0 [EV.lit (.int .u8 1)])))).length = _
          rw [hv1, BA _ _ _ hvc2, hvl2]
        · show clL (mvL _ _ (A.app (A.tak (A.mul N 1) (A.drp 0 vc)) (A.tak (A.mul 1 1) (A.drp 0 [EV.lit (.int .u8 1)])))) = true
          rw [hv1, BA _ _ _ hvc2]; exact hvc2
        · show mvL _ _ e2 = _
          rw [he2, C9, show (A.ib .add .i64 z 1).toNat = z.toNat + 1 by simp (disch := omega) only [hA, Ba] <;> omega, hmr.out hzl]
          try rw [show l = [] from List.length_eq_zero_iff.1 (by omega)]; rfl
        · simp (disch := omega) only [hA, Ba] <;> omega
        · simp (disch := omega) only [hA, Ba] <;> omega
    · rcases hst with ⟨hz2, rfl⟩ | ⟨hz2, rfl⟩
      all_goals
        with_reducible refine Bf hA hd hQ 200 ?hk ?_
        case hk => trivial
        conv => arg 9; cbv
        try simp only [OK]
        repeat' first | ((with_reducible refine ⟨fun hbr => ?_, fun hbr => ?_⟩) <;> (try simp (disch := omega) only [hA, Ba] at hbr) <;> (try (with_reducible exfalso; omega))) | ((with_reducible refine Be hA hd hQ 200 ?hk ?_); (case hk => trivial); (conv => arg 9; cbv); (try simp only [OK]))
        have hQ1 := hQ;refine cO (Bi F24_ok) (Bk F24_ok fun I0 ρ0 w0 Q hρ3 hQ => ?_)
        with_reducible refine Bf hA hd hQ 200 ?hk ?_
        case hk => trivial
        conv => arg 9; cbv
        try simp only [OK]
        repeat' first | (with_reducible refine OKK.loop ?_) | ((with_reducible refine ⟨fun hbr => ?_, fun hbr => ?_⟩) <;> (try simp (disch := omega) only [hA, Ba] at hbr) <;> (try (with_reducible exfalso; omega))) | ((with_reducible refine Be hA hd hQ 200 ?hk ?_); (case hk => trivial); (conv => arg 9; cbv); (try simp only [OK]))
        refine OKs.loopU ?_
        with_reducible refine Bf hA hd hQ 200 ?hk ?_
        case hk => trivial
        conv => arg 9; cbv
        try simp only [OK]
        repeat' first | ((with_reducible refine ⟨fun hbr => ?_, fun hbr => ?_⟩) <;> (try simp (disch := omega) only [hA, Ba] at hbr) <;> (try (with_reducible exfalso; omega))) | ((with_reducible refine Be hA hd hQ 200 ?hk ?_); (case hk => trivial); (conv => arg 9; cbv); (try simp only [OK])) | ((with_reducible refine Bn ?hn ?_); (case hn => ((simp (disch := omega) only [hA, Ba]) <;> omega)))
      all_goals
        refine fI_ rfl ?_;replace hQ := hQ1
        with_reducible refine Be hA hd hQ 1 ?hk ?_
        case hk => trivial
        conv => arg 9; cbv
        try simp only [OK]
        repeat' first | ((with_reducible refine Be hA hd hQ 200 ?hk ?_); (case hk => trivial); (conv => arg 9; cbv); (try simp only [OK]))
      · have hl0 : len = 0 := by omega
        refine fI_ rfl ⟨8, 5, 7, some 2, some 0, some 0, ?_, by decide, by decide, by decide, ?_, rfl, ?_⟩
        · rw [show ((len : Nat) : Int) = r by omega]; rfl
        · rw [hl0, hA]; rfl
        · rw [show ns = [] from List.length_eq_zero_iff.1 (by omega), hA]; rfl
      · have hzl2 : ns.take z.toNat = ns := lT (by omega)
        rw [hzl2] at hl;refine fI_ rfl ⟨11, 7, 10, some 2, some 0, none, ?_, by decide, by decide, by decide, ?_, rfl, ?_⟩
        · rw [show ((len : Nat) : Int) = r by omega]; rfl
        · rw [show 8 * len = A.add 0 M by rw [hA]; show _ = 0 + M; omega]; rfl
        · rw [← hl, ← hc]
          show EO.blk (A.app (A.tak (A.mul 0 1) (A.drp 0 [])) (A.tak (A.mul M 1) (A.drp 0 c))) = _;rw [hA];simp only [HR, II, IR, IC, List.drop_zero, Nat.mul_one, lT (Nat.le_of_eq hcl)];rfl
def UpLs:List EV->List EV->Prop
 |[],[]=>True
 |x::l,y::m=>Up x y/\UpLs l m
 |_,_=>False
theorem UpLs.get:∀{a b:List EV},UpLs a b->∀(j:Nat) (y:EV),b[j]?=some y->∃x,a[j]?=some x/\Up x y
 |[],[],_,j,y,h=>by simp at h
 |x::a,z::b,⟨h1,h2⟩,0,y,h=>by simp at h;subst h;exact⟨x,rfl,h1⟩
 |x::a,z::b,⟨h1,h2⟩,j+1,y,h=>by
  obtain⟨u,k1,k2⟩:=UpLs.get h2 j y (by simpa using h)
  exact⟨u,by simpa using k1,k2⟩
theorem UpLs.len:∀{a b:List EV},UpLs a b->a.length=b.length
 |[],[],_=>rfl
 |x::a,z::b,⟨_,h⟩=>by simp[UpLs.len h]
theorem Up.islC{n:Nat}{cap:Option Nat}{c c':List EV}(hu:UpLs c c'):Up (.isl n cap c) (.isl n cap c'):=fun w I ρ cv h=>by
 cases h with
 |isl _ _ _ _ a kk vs h1 h2 h3 h4=>
  refine .isl _ _ _ _ a kk vs h1 h2 (fun hk=>⟨(h3 hk).1,fun j y hy=>?_⟩) (fun hk j y hy=>?_)
  ·obtain⟨x,k1,_⟩:=hu.get j y hy
   exact(h3 hk).2 j x k1
  ·obtain⟨x,k1,k2⟩:=hu.get j y hy
   exact k2 _ _ _ _ (h4 hk j x k1)
 |isln=>exact .isln _ _
theorem Up.aggC{c c':List EV}(hu:UpLs c c'):Up (.agg c) (.agg c'):=fun w I ρ cv h=>by
 cases h with
 |agg _ _ vs h1 h2=>
  refine .agg _ _ _ (by rw[<-hu.len,h1]) fun j x v hx hv=>?_
  obtain⟨y,k1,k2⟩:=hu.get j x hx;exact k2 _ _ _ _ (h2 j y v k1 hv)
def dC(len:Nat)(B:List EV):List EV:=[.lit (.int .i64 len),.lit (.int .i64 0),.lit (.int .i64 0),.isl 2 none [.isl 0 none [],.isl (8*len) none B],.lit (.slice none 0 0),.lit (.slice none 0 0)]
theorem Zj(len:Nat)(B:List EV):clE (.agg (dC len B))=true:=rfl
theorem Up.dC{len:Nat}{B:List EV}{c1 c2 c3:Option Nat}:UpLs [.lit (.int .i64 len),.lit (.int .i64 0),.lit (.int .i64 0),.isl 2 c1 [.isl 0 c2 [],.isl (8*len) c3 B],.lit (.slice none 0 0),.lit (.slice none 0 0)] (dC len B):=
 ⟨Up.refl _,Up.refl _,Up.refl _,(Up.cap _ _ _).trans (Up.islC ⟨Up.cap _ _ _,Up.cap _ _ _,trivial⟩),Up.refl _,Up.refl _,trivial⟩
theorem Tri.fz3{P:Program}{G:List (List EV)}{f:FuncId}{args:List EV}{len:Nat}{B:List EV}{F:EV->EV}(hB:clL B=true)
  (hF1:∀g z x,mvE g z (F x)=F (mvE g z x)) (hF2:∀x y,Up x y->Up (F x) (F y)) (hF3:∀x,clE x=true->clE (F x)=true) (ha:clL args=true)
  (t:Tri P G f args [] fun v h'=>∃(i j k:Nat) (c1 c2 c3:Option Nat),v=F (.agg [.lit (.int .i64 len),.lit (.int .i64 0),.lit (.int .i64 0),.sl 1 i 0 2 c1,.lit (.slice none 0 0),.lit (.slice none 0 0)])/\
   i≠j/\i≠k/\j≠k/\Bh h' i = .blk [.sl 1 j 0 0 c2,.sl 1 k 0 (8*len) c3]/\Bh h' j = .blk []/\Bh h' k = .blk B) (h:EH) :
  Tri P G f args h fun v h'=>v=F (.agg (dC len B))/\h'=h:=by
 have t1:Tri P G f args [] fun v h'=>∃(c1 c2 c3:Option Nat),v=F (.agg [.lit (.int .i64 len),.lit (.int .i64 0),.lit (.int .i64 0),.sl 1 0 0 2 c1,.lit (.slice none 0 0),.lit (.slice none 0 0)])/\h'=[.blk [.isl 0 c2 [],.isl (8*len) c3 B]]:=
  Tri.mv t fun v h' ⟨i,j,k,c1,c2,c3,hv,h1,h2,h3,g1,g2,g3⟩=>by
   refine⟨[i],[j,k],rfl,⟨by simp,fun id hid=>?_,fun id hid=>?_⟩,c1,c2,c3,?_,?_⟩
   ·simp at hid;subst hid
    exact Eh (by rw[g1];simp)
   ·simp at hid
    rcases hid with rfl|rfl
    ·exact⟨_,g2,rfl⟩
    ·exact⟨_,g3,hB⟩
   ·rw[hv,hF1]
    simp[mvE,mvL,mvG,mvZ,inL,ixL,h1,h2,h3,Ne.symm h1,Ne.symm h2]
   ·simp[mvH,mvO,mvE,mvL,mvG,mvZ,inL,ixL,g1,g2,g3,h1,h2,h3,Ne.symm h1,Ne.symm h2,Ne.symm h3]
 have t2:Tri P G f args [] fun v h'=>∃(c1 c2 c3:Option Nat),v=F (.agg [.lit (.int .i64 len),.lit (.int .i64 0),.lit (.int .i64 0),.isl 2 c1 [.isl 0 c2 [],.isl (8*len) c3 B],.lit (.slice none 0 0),.lit (.slice none 0 0)])/\h'=[]:=
  Tri.mv t1 fun v h' ⟨c1,c2,c3,hv,hh⟩=>by
   subst hh;refine⟨[],[0],rfl,⟨by simp,by simp,fun id hid=>?_⟩,c1,c2,c3,?_,rfl⟩
   ·simp at hid;subst hid
    exact⟨_,rfl,rfl⟩
   ·rw[hv,hF1]
    simp[mvE,mvL,mvG,mvZ,inL,ixL,Bh]
 have t3:Tri P G f args [] fun v _=>v=F (.agg (dC len B)):=Tri.up (R:=fun v _=>Up v (F (.agg (dC len B)))) (t2.mono fun v h' ⟨c1,c2,c3,hv,_⟩=>by
  rw[hv];exact hF2 _ _ (Up.aggC Up.dC)) fun v h' hu=>⟨_,rfl,hu⟩
 exact Tri.valA (hF3 _ (Zj _ _)) ha t3 h
theorem RH{F:List EV}(hF:F=fC\/F=fD)(ns:List Int)(hn:ns.length<=4096)(h:EH) :
  Tri Tryz.prog gs 10 [.agg F,.isl ns.length none (Bu ns)] h fun v h'=>v = .tup [.agg (dC ns.length (Bj (Bq ns))),.lit (.int .i64 0),.lit (.int .i64 0)]/\h'=h:=
 Tri.fz3 (F:=fun x=>.tup [x,.lit (.int .i64 0),.lit (.int .i64 0)]) (Ih _) (fun g z x=>rfl) (fun x y hu=>Up.tup rfl fun j p q hp hq=>by
  match j,hp,hq with
  |0,hp,hq=>simp at hp hq;subst hp;subst hq;exact hu
  |1,hp,hq=>simp at hp hq;subst hp;subst hq;exact Up.refl _
  |2,hp,hq=>simp at hp hq;subst hp;subst hq;exact Up.refl _
  |j+3,hp,hq=>simp at hp) (fun x hx=>by simp[clE,clL,hx]) (by rcases hF with rfl|rfl<;>rfl) (Wf hF ns hn) h
theorem closedA{f:FuncId}{args:List EV}{V:EV}(he:(G6 gs tabA 100000 f args).bind mvA=some (V,[]))(ha:clL args=true)(hV:clE V=true)(h:EH) :
  Tri Tryz.prog gs f args h fun v h'=>v=V/\h'=h:=Tri.closedA hd Lz he ha hV h
def dX(N:Int)(M:Nat)(B:List EV):List EV:=[.lit (.int .i64 N),.lit (.int .i64 0),.lit (.int .i64 0),.isl 2 none [.isl 0 none [],.isl M none B],.lit (.slice none 0 0),.lit (.slice none 0 0)]
def tC:List EV:=[.lit (.int .i64 11),.lit (.int .i64 0),.lit (.int .i64 0),.lit (.int .i64 0),.lit (.slice none 0 0)]
theorem WG(h:EH):Tri Tryz.prog gs 156 [.agg tC] h fun v h'=>v = .tup [.lit (.int .i64 2),.lit (.int .i64 0),.lit (.int .i64 0)]/\h'=h:=closedA (by kernel_rfl) rfl rfl h
theorem Wc(h:EH):Tri Tryz.prog gs 227 [.agg tC] h fun v h'=>v = .lit (.int .i64 8)/\h'=h:=closedA (by kernel_rfl) rfl rfl h
theorem Iz(h:EH):Tri Tryz.prog gs 158 [.lit (.int .i64 11)] h fun v h'=>v = .sb true/\h'=h:=closedA (by kernel_rfl) rfl rfl h
theorem RJ(h:EH):Tri Tryz.prog gs 109 [.agg fC] h fun v h'=>v = .lit (.int .i64 0)/\h'=h:=closedA (by kernel_rfl) rfl rfl h
theorem Ct{A:Ar}(hA:A=stdA)(X Y:EV):List.take 1 (List.drop (A.idx 0 0 1) [X,Y])=[X]:=by rw[hA];rfl
theorem C5{A:Ar}(hA:A=stdA)(X Y:EV):List.take 1 (List.drop (A.idx 0 1 1) [X,Y])=[Y]:=by rw[hA];rfl
theorem Il(N r:Int)(M:Nat)(B:List EV)(h:EH):Tri Tryz.prog gs 159 [.agg fC,.agg (dX N M B),.lit (.int .i64 r)] h fun v h'=>v = .lit (.bool false)/\h'=h:=by
 refine Tri.valA rfl rfl (Bk F159_ok fun I0 ρ0 w0 Q hρ hQ=>?_) h
 obtain⟨A,hA⟩:∃A,A=stdA:=⟨_,rfl⟩
 unfold fC dX
 with_reducible refine Bf hA hd hQ 200 ?hk ?_
 case hk=>trivial
 conv=>arg 9;cbv
 try simp only[OK]
 repeat' first|((with_reducible refine⟨fun hbr=>?_,fun hbr=>?_⟩)<;>(try simp(disch:=omega)only[hA,Ba,reduceCtorEq]at hbr)<;>(try (with_reducible exfalso;omega)))|((with_reducible refine Be hA hd hQ 200 ?hk ?_);(case hk=>trivial);(conv=>arg 9;cbv);(try simp only[OK]))|((with_reducible refine Bn ?hn ?_);(case hn=>((simp(disch:=omega)only[hA,Ba])<;>omega)))|((refine⟨_,_,?l1,Ct hA _ _,rfl,?_⟩);(case l1=>exact rfl))|((with_reducible refine cO ?hg ?_);(case hg=>with_reducible exact Bi F158_ok);refine tM (Iz _) ?_;rintro _ _ ⟨rfl,rfl⟩)
 all_goals first|exact fI_ rfl rfl|trace_state
theorem VA(e:Int)(he1:0<=e)(he2:e<=4096)(h:EH):Tri Tryz.prog gs 226 [.lit (.int .i64 e)] h fun v h'=>IsN .i64 (fun z=>True) v/\h'=h:=by
 refine Tri.intC rfl (Bk F226_ok fun I0 ρ0 w0 Q hρ hQ=>?_) h
 obtain⟨A,hA⟩:∃A,A=stdA:=⟨_,rfl⟩
 with_reducible refine Bf hA hd hQ 200 ?hk ?_
 case hk=>trivial
 conv=>arg 9;cbv
 try simp only[OK]
 repeat' first|((with_reducible refine⟨fun hbr=>?_,fun hbr=>?_⟩)<;>(try simp(disch:=omega)only[hA,Ba]at hbr)<;>(try (with_reducible exfalso;omega)))|((with_reducible refine Be hA hd hQ 200 ?hk ?_);(case hk=>trivial);(conv=>arg 9;cbv);(try simp only[OK]))|((with_reducible refine Bn ?hn ?_);(case hn=>((simp(disch:=omega)only[hA,Ba])<;>omega)))
 all_goals exact fI_ rfl ⟨_,rfl,trivial⟩
theorem VZ(k e:Int)(hk:k=0\/k=1)(he1:0<=e)(he2:e<=4096)(h:EH):Tri Tryz.prog gs 157 [.agg tC,.lit (.int .i64 k),.lit (.int .i64 e)] h fun v h'=>IsN .i64 (fun z=>k=1->z=8*e) v/\h'=h:=by
 refine Tri.intC rfl (Bk F157_ok fun I0 ρ0 w0 Q hρ hQ=>?_) h
 obtain⟨A,hA⟩:∃A,A=stdA:=⟨_,rfl⟩
 have k1:=Wc
 unfold tC at *
 with_reducible refine Bf hA hd hQ 200 ?hk ?_
 case hk=>trivial
 conv=>arg 9;cbv
 try simp only[OK]
 repeat' first|((with_reducible refine⟨fun hbr=>?_,fun hbr=>?_⟩)<;>(try simp(disch:=omega)only[hA,Ba,reduceCtorEq]at hbr)<;>(try (with_reducible exfalso;omega)))|((with_reducible refine Be hA hd hQ 200 ?hk ?_);(case hk=>trivial);(conv=>arg 9;cbv);(try simp only[OK]))|((with_reducible refine cO ?hg ?_);(case hg=>with_reducible exact Bi F158_ok);refine tM (Iz _) ?_;rintro _ _ ⟨rfl,rfl⟩)|((with_reducible refine cO ?hg ?_);(case hg=>with_reducible exact Bi F227_ok);refine tM (k1 _) ?_;rintro _ _ ⟨rfl,rfl⟩)|(refine cO (Bi F226_ok) (tM (VA e he1 he2 _) fun v hh hx=>?_);(obtain⟨⟨z,hv,hz⟩,he⟩:=hx;subst hv;subst he))
 all_goals refine fI_ rfl ⟨_,rfl,?_⟩
 all_goals first|(intro hk1;exfalso;omega)|(intro hk1;simp(disch:=omega)only[hA,Ba]<;>omega)
theorem Yu(N:Int)(M:Nat)(B:List EV)(hN:0<=N/\N<=4096)(h:EH):Tri Tryz.prog gs 107 [.agg fC,.agg (dX N M B)] h fun v h'=>v = .lit (.int .i64 0)/\h'=h:=by
 have k1:=fun r=>Il N r M B
 refine Tri.valA rfl rfl (Bk F107_ok fun I0 ρ0 w0 Q hρ hQ=>?_) h
 obtain⟨A,hA⟩:∃A,A=stdA:=⟨_,rfl⟩
 with_reducible refine Bf hA hd hQ 200 ?hk ?_
 case hk=>trivial
 conv=>arg 9;cbv
 try simp only[OK]
 repeat' first|(with_reducible refine OKK.loop ?_)
 refine oK_ (msk 25 [2,3,4,5,6]) (OKs.mv [0,1] [] (by rw[hρ];rfl) ⟨by decide,by simp[Bd],by simp⟩ ?_)
 refine oL_ (fun m st=>∃z:Int,m=((N:Int)-z).toNat/\0<=z/\z<=N/\st=⟨mkT 25 [(2,.ptr 0 0),(3,.ptr 1 0),(4,.lit (.int .i64 0)),(5,.lit (.int .i64 0)),(6,.lit (.int .i64 z))],[.blk fC,.blk (dX N M B)]⟩) (fun m st hs' ih=>?_) ⟨0,rfl,by omega,by omega,rfl⟩
 obtain⟨z,hm,hz0,hz1,rfl⟩:=hs'
 unfold fC dX at *
 with_reducible refine Bf hA hd hQ 200 ?hk ?_
 case hk=>trivial
 conv=>arg 9;cbv
 try simp only[OK]
 repeat' first|(with_reducible refine OKK.again ?_)|((with_reducible refine⟨fun hbr=>?_,fun hbr=>?_⟩)<;>(try simp(disch:=omega)only[hA,Ba]at hbr)<;>(try (with_reducible exfalso;omega)))|((with_reducible refine Be hA hd hQ 200 ?hk ?_);(case hk=>trivial);(conv=>arg 9;cbv);(try simp only[OK]))|((with_reducible refine cO ?hg ?_);(case hg=>with_reducible exact Bi F159_ok);refine tM (k1 _ _) ?_;rintro _ _ ⟨rfl,rfl⟩)
 ·refine oK_ (msk 25 [2,3,4,5,6]) (OKs.mv [0,1] [] (by rw[hρ];rfl) ⟨by decide,by simp[Bd],by simp⟩ (ih _ _ ⟨A.ib .add .i64 z 1,rfl,by simp(disch:=omega)only[hA,Ba]<;>omega,by simp(disch:=omega)only[hA,Ba]<;>omega,rfl⟩ (by simp(disch:=omega)only[hA,Ba]<;>omega)))
 ·exact fI_ rfl rfl
theorem UB(N:Int)(M:Nat)(B:List EV)(hN:0<=N/\N<=4096)(h:EH):Tri Tryz.prog gs 108 [.agg fC,.agg (dX N M B)] h fun v h'=>v = .tup [.lit (.int .i64 0),.lit (.int .i64 0)]/\h'=h:=by
 have k1:=fun r=>Il N r M B
 refine Tri.valA rfl rfl (Bk F108_ok fun I0 ρ0 w0 Q hρ hQ=>?_) h
 obtain⟨A,hA⟩:∃A,A=stdA:=⟨_,rfl⟩
 unfold fC at *
 with_reducible refine Bf hA hd hQ 200 ?hk ?_
 case hk=>trivial
 conv=>arg 9;cbv
 try simp only[OK]
 repeat' first|(with_reducible refine OKK.loop ?_)|((with_reducible refine⟨fun hbr=>?_,fun hbr=>?_⟩)<;>(try simp(disch:=omega)only[hA,Ba]at hbr)<;>(try (with_reducible exfalso;omega)))|((with_reducible refine Be hA hd hQ 200 ?hk ?_);(case hk=>trivial);(conv=>arg 9;cbv);(try simp only[OK]))
 refine oK_ (msk 171 [2,3,4,5,6,10]) (OKs.mv [0,1] [] (by rw[hρ];rfl) ⟨by decide,by simp[Bd],by simp⟩ ?_)
 refine oL_ (fun m st=>∃z:Int,m=((N:Int)-z).toNat/\0<=z/\z<=N/\st=⟨mkT 171 [(2,.ptr 0 0),(3,.ptr 1 0),(4,.lit (.int .i64 0)),(5,.lit (.int .i64 0)),(6,.lit (.int .i64 11)),(10,.lit (.int .i64 z))],[.blk fC,.blk (dX N M B)]⟩) (fun m st hs' ih=>?_) ⟨0,rfl,by omega,by omega,rfl⟩
 obtain⟨z,hm,hz0,hz1,rfl⟩:=hs'
 unfold fC dX at *
 with_reducible refine Bf hA hd hQ 200 ?hk ?_
 case hk=>trivial
 conv=>arg 9;cbv
 try simp only[OK]
 repeat' first|(with_reducible refine OKK.again ?_)|((with_reducible refine⟨fun hbr=>?_,fun hbr=>?_⟩)<;>(try simp(disch:=omega)only[hA,Ba]at hbr)<;>(try (with_reducible exfalso;omega)))|((with_reducible refine Be hA hd hQ 200 ?hk ?_);(case hk=>trivial);(conv=>arg 9;cbv);(try simp only[OK]))|((with_reducible refine cO ?hg ?_);(case hg=>with_reducible exact Bi F159_ok);refine tM (k1 _ _) ?_;rintro _ _ ⟨rfl,rfl⟩)
 ·refine oK_ (msk 171 [2,3,4,5,6,10]) (OKs.mv [0,1] [] (by rw[hρ];rfl) ⟨by decide,by simp[Bd],by simp⟩ (ih _ _ ⟨A.ib .add .i64 z 1,rfl,by simp(disch:=omega)only[hA,Ba]<;>omega,by simp(disch:=omega)only[hA,Ba]<;>omega,rfl⟩ (by simp(disch:=omega)only[hA,Ba]<;>omega)))
 ·exact fI_ rfl rfl
theorem TK(N r:Int)(M n:Nat)(c:Option Nat)(B l:List EV)(h:EH):Tri Tryz.prog gs 165 [.agg fC,.agg (dX N M B),.lit (.int .i64 r),.isl n c l] h fun v h'=>v = .lit (.int .i64 16)/\h'=h:=by
 refine Tri.valA rfl rfl (Bk F165_ok fun I0 ρ0 w0 Q hρ hQ=>?_) h
 obtain⟨A,hA⟩:∃A,A=stdA:=⟨_,rfl⟩
 unfold fC dX
 with_reducible refine Bf hA hd hQ 200 ?hk ?_
 case hk=>trivial
 conv=>arg 9;cbv
 try simp only[OK]
 repeat' first|((with_reducible refine⟨fun hbr=>?_,fun hbr=>?_⟩)<;>(try simp(disch:=omega)only[hA,Ba]at hbr)<;>(try (with_reducible exfalso;omega)))|((with_reducible refine Be hA hd hQ 200 ?hk ?_);(case hk=>trivial);(conv=>arg 9;cbv);(try simp only[OK]))
 all_goals exact fI_ rfl rfl
theorem Tri.fz1{P:Program}{G:List (List EV)}{f:FuncId}{args:List EV}{n:Nat}{B:List EV}(hB:clL B=true)(ha:clL args=true)
  (t:Tri P G f args [] fun v h'=>∃(i es:Nat) (c:Option Nat),v = .sl es i 0 n c/\Bh h' i = .blk B) (h:EH) :
  Tri P G f args h fun v h'=>v = .isl n none B/\h'=h:=by
 have t1:Tri P G f args [] fun v h'=>∃(c:Option Nat),v = .isl n c B:=
  Tri.mv t fun v h' ⟨i,es,c,hv,hg⟩=>by
   refine⟨[],[i],rfl,⟨by simp,by simp,fun id hid=>?_⟩,c,?_⟩
   ·simp at hid;subst hid
    exact⟨_,hg,hB⟩
   ·rw[hv]
    simp[mvE,mvG,mvZ,inL,hg]
 have t2:Tri P G f args [] fun v _=>v = .isl n none B:=Tri.up (R:=fun v _=>Up v (.isl n none B)) (t1.mono fun v h' ⟨c,hv⟩=>by
  rw[hv];exact Up.cap _ _ _) fun v h' hu=>⟨_,rfl,hu⟩
 exact Tri.valA rfl ha t2 h
theorem Dl{A:Ar}(hA:A=stdA){Z k e:Nat}{c x:List EV}(hc:c.length=Z*e)(hx:x.length=k*e):A.app (A.tak (A.mul Z e) (A.drp 0 c)) (A.tak (A.mul k e) (A.drp 0 x))=c++x:=by
 rw[hA];simp only[HR,II,IR,IC,List.drop_zero];rw[lT (by omega),lT (by omega)]
theorem DN{A:Ar}(hA:A=stdA){Z k e:Nat}{c x:List EV}(hc:c.length=Z*e)(hx:x.length=k*e)(h1:clL c=true)(h2:clL x=true)(g z):mvL g z (A.app (A.tak (A.mul Z e) (A.drp 0 c)) (A.tak (A.mul k e) (A.drp 0 x)))=c++x:=by
 rw[Dl hA hc hx,BA _ _ _ (CU h1 h2)]
def sxt(n:Nat):List EV:=List.replicate n (.lit (.int .i64 16))
theorem Is(n:Nat):clL (sxt n)=true:=by
 induction n with
 |zero=>rfl
 |succ n ih=>show (true&&clL (sxt n))=true;rw[ih];rfl
theorem Ng(n:Nat):sxt (n+1)=sxt n++[.lit (.int .i64 16)]:=by unfold sxt;rw[List.replicate_succ']
theorem GU(n:Nat):(sxt n).length=n:=by simp[sxt]
theorem Sf(N:Int)(M:Nat)(B:List EV)(hN:0<=N/\N<=4096):Tri Tryz.prog gs 112 [.agg fC,.agg (dX N M B)] [] fun v h'=>∃(i es:Nat) (c:Option Nat),v = .sl es i 0 N.toNat c/\Bh h' i = .blk (sxt N.toNat):=by
 have k1:=fun r=>Il N r M B
 have k2:=RJ
 have k3:=fun r n c l=>TK N r M n c B l
 refine(Bk F112_ok fun I0 ρ0 w0 Q hρ hQ=>?_)
 obtain⟨A,hA⟩:∃A,A=stdA:=⟨_,rfl⟩
 with_reducible refine Bf hA hd hQ 200 ?hk ?_
 case hk=>trivial
 conv=>arg 9;cbv
 try simp only[OK]
 repeat' first|(with_reducible refine OKK.loop ?_)|((with_reducible refine Be hA hd hQ 200 ?hk ?_);(case hk=>trivial);(conv=>arg 9;cbv);(try simp only[OK]))|((with_reducible refine Bn ?hn ?_);(case hn=>((simp(disch:=omega)only[hA,Ba])<;>omega)))|((with_reducible refine cO ?hg ?_);(case hg=>with_reducible exact Bi F109_ok);refine tM (k2 _) ?_;rintro _ _ ⟨rfl,rfl⟩)
 refine OKs.loopU ?_
 with_reducible refine Bf hA hd hQ 200 ?hk ?_
 case hk=>trivial
 conv=>arg 9;cbv
 try simp only[OK]
 repeat' first|(with_reducible refine OKK.loop ?_)|((with_reducible refine⟨fun hbr=>?_,fun hbr=>?_⟩)<;>(try simp(disch:=omega)only[hA,Ba]at hbr)<;>(try (with_reducible exfalso;omega)))|((with_reducible refine Be hA hd hQ 200 ?hk ?_);(case hk=>trivial);(conv=>arg 9;cbv);(try simp only[OK]))
 refine oK_ (msk 64 [2,3,6,10,11]) (OKs.mv [0,1,3] [2] (by rw[hρ];rfl) ⟨by decide,by simp[Bd],fun id hid=>by simp at hid;subst hid;exact⟨_,rfl,by rw[hA];rfl⟩⟩ ?_)
 refine oL_ (fun m st=>∃(z:Int) (n6 Z:Nat) (c6:Option Nat) (l6 c:List EV) (y:EV),m=(N-z).toNat/\0<=z/\z<=N/\Z=z.toNat/\c=sxt Z/\((z=0/\y = .sl 1 2 0 0 (some 0))\/(1<=z/\y = .sl 1 2 0 Z none))/\
   st=⟨mkT 64 [(2,.ptr 0 0),(3,.ptr 1 0),(6,.isl n6 c6 l6),(10,y),(11,.lit (.int .i64 z))],[.blk fC,.blk (dX N M B),.blk c]⟩)
  (fun m st hs' ih=>?_) ⟨0,_,0,_,_,_,_,rfl,by omega,by omega,rfl,rfl,.inl ⟨rfl,rfl⟩,rfl⟩
 obtain⟨z,n6,Z,c6,l6,c,y,hm,hz0,hz1,hZ,hc,hy,rfl⟩:=hs'
 have hcl:c.length=Z:=by rw[hc,GU]
 unfold fC dX at *
 rcases hy with ⟨hz2,rfl⟩|⟨hz2,rfl⟩
 all_goals
  with_reducible refine Bf hA hd hQ 200 ?hk ?_
  case hk=>trivial
  conv=>arg 9;cbv
  try simp only[OK]
  repeat' first|(with_reducible refine OKK.again ?_)|((with_reducible refine⟨fun hbr=>?_,fun hbr=>?_⟩)<;>(try simp(disch:=omega)only[hA,Ba]at hbr)<;>(try (with_reducible exfalso;omega)))|((with_reducible refine Be hA hd hQ 200 ?hk ?_);(case hk=>trivial);(conv=>arg 9;cbv);(try simp only[OK]))|((with_reducible refine Bn ?hn ?_);(case hn=>((simp(disch:=omega)only[hA,Ba])<;>omega)))|((with_reducible refine cO ?hg ?_);(case hg=>with_reducible exact Bi F159_ok);refine tM (k1 _ _) ?_;rintro _ _ ⟨rfl,rfl⟩)|((with_reducible refine cO ?hg ?_);(case hg=>with_reducible exact Bi F165_ok);refine tM (k3 _ _ _ _ _) ?_;rintro _ _ ⟨rfl,rfl⟩)
  ·refine oK_ (msk 64 [2,3,6,10,11]) (OKs.mv [0,1,4] [] (by rw[hρ];rfl) ⟨by decide,by simp[Bd],by simp⟩ (ih _ _ ⟨A.ib .add .i64 z 1,n6,_,c6,l6,_,_,rfl,by simp(disch:=omega)only[hA,Ba]<;>omega,by simp(disch:=omega)only[hA,Ba]<;>omega,?_,?_,.inr ⟨by simp(disch:=omega)only[hA,Ba]<;>omega,rfl⟩,rfl⟩ (by simp(disch:=omega)only[hA,Ba]<;>omega)))
   ·simp(disch:=omega)only[hA,Ba]<;>omega
   ·refine(DN hA (by omega) rfl (by rw[hc];exact Is _) rfl _ _).trans ?_
    rw[hc,<-Ng];exact congrArg sxt (by simp(disch:=omega)only[hA,Ba]<;>omega)
  ·refine fI_ rfl ⟨2,1,_,congrArg (fun q=>EV.sl 1 2 0 q _) (show _=N.toNat by omega),?_⟩
   show EO.blk c=_;rw[hc,show Z=N.toNat by omega]
theorem So(N:Int)(M:Nat)(B:List EV)(hN:0<=N/\N<=4096)(h:EH):Tri Tryz.prog gs 112 [.agg fC,.agg (dX N M B)] h fun v h'=>v = .isl N.toNat none (sxt N.toNat)/\h'=h:=
 Tri.fz1 (Is _) rfl (Sf N M B hN) h
theorem U4(N:Int)(M:Nat)(B:List EV)(hN:0<=N/\N<=4096)(hM:(M:Int)=8*N)(h:EH):Tri Tryz.prog gs 105 [.agg fC,.agg (dX N M B)] h fun v h'=>v = .tup [.lit (.int .i64 0),.lit (.int .i64 0)]/\h'=h:=by
 have k1:=WG
 have k2:=fun k e a b c=>VZ k e a b c
 refine Tri.valA rfl rfl (Bk F105_ok fun I0 ρ0 w0 Q hρ hQ=>?_) h
 obtain⟨A,hA⟩:∃A,A=stdA:=⟨_,rfl⟩
 unfold fC dX tC at *
 with_reducible refine Bf hA hd hQ 200 ?hk ?_
 case hk=>trivial
 conv=>arg 9;cbv
 try simp only[OK]
 repeat' first|(with_reducible refine OKK.loop ?_)|((with_reducible refine⟨fun hbr=>?_,fun hbr=>?_⟩)<;>(try simp(disch:=omega)only[hA,Ba]at hbr)<;>(try (with_reducible exfalso;omega)))|((with_reducible refine Be hA hd hQ 200 ?hk ?_);(case hk=>trivial);(conv=>arg 9;cbv);(try simp only[OK]))|((with_reducible refine cO ?hg ?_);(case hg=>with_reducible exact Bi F156_ok);refine tM (k1 _) ?_;rintro _ _ ⟨rfl,rfl⟩)
 have hE1:0<=A.ib .add .i64 0 N:=by simp(disch:=omega)only[hA,Ba]<;>omega
 have hE2:A.ib .add .i64 0 N<=4096:=by simp(disch:=omega)only[hA,Ba]<;>omega
 obtain⟨E,hE⟩:∃E,E=A.ib .add .i64 0 N:=⟨_,rfl⟩
 have hE3:E=N:=by rw[hE];simp(disch:=omega)only[hA,Ba]<;>omega
 refine oK_ (msk 163 [2,3,4,5,6,7,8,9]) (OKs.mv [0,1] [] (by rw[hρ];rfl) ⟨by decide,by simp[Bd],by simp⟩ ?_)
 refine oL_ (fun m st=>∃z:Int,m=((2:Int)-z).toNat/\0<=z/\z<=2/\st=⟨mkT 163 [(2,.ptr 0 0),(3,.ptr 1 0),(4,.lit (.int .i64 0)),(5,.lit (.int .i64 0)),(6,.lit (.int .i64 2)),(7,.lit (.int .i64 0)),(8,.lit (.int .i64 0)),(9,.lit (.int .i64 z))],[.blk fC,.blk (dX N M B)]⟩) (fun m st hs' ih=>?_) ⟨0,rfl,by omega,by omega,rfl⟩
 obtain⟨z,hm,hz0,hz1,rfl⟩:=hs'
 have hz:z=0\/z=1\/z=2:=by omega
 unfold fC dX at *
 rcases hz with rfl|rfl|rfl
 ·skip
  with_reducible refine Bf hA hd hQ 200 ?hk ?_
  case hk=>trivial
  conv=>arg 9;cbv
  try simp only[OK]
  repeat' first|(with_reducible refine OKK.again ?_)|((with_reducible refine⟨fun hbr=>?_,fun hbr=>?_⟩)<;>(try simp(disch:=omega)only[hA,Ba]at hbr)<;>(try (with_reducible exfalso;omega)))|((with_reducible refine Be hA hd hQ 200 ?hk ?_);(case hk=>trivial);(conv=>arg 9;cbv);(try simp only[OK]))|((with_reducible refine Bn ?hn ?_);(case hn=>((simp(disch:=omega)only[hA,Ba])<;>omega)))|((refine⟨_,_,?l1,Ct hA _ _,rfl,?_⟩);(case l1=>exact rfl))
  refine oK_ (msk 163 [2,3,4,5,6,7,8,9]) (OKs.mv [0,1] [] (by rw[hρ];rfl) ⟨by decide,by simp[Bd],by simp⟩ (ih _ _ ⟨A.ib .add .i64 0 1,rfl,by simp(disch:=omega)only[hA,Ba]<;>omega,by simp(disch:=omega)only[hA,Ba]<;>omega,rfl⟩ (by simp(disch:=omega)only[hA,Ba]<;>omega)))
 ·skip
  with_reducible refine Bf hA hd hQ 200 ?hk ?_
  case hk=>trivial
  conv=>arg 9;cbv
  try simp only[OK]
  repeat' first|(with_reducible refine OKK.again ?_)|((with_reducible refine⟨fun hbr=>?_,fun hbr=>?_⟩)<;>(try simp(disch:=omega)only[hA,Ba]at hbr)<;>(try (with_reducible exfalso;omega)))|((with_reducible refine Be hA hd hQ 200 ?hk ?_);(case hk=>trivial);(conv=>arg 9;cbv);(try simp only[OK]))|((with_reducible refine Bn ?hn ?_);(case hn=>((simp(disch:=omega)only[hA,Ba])<;>omega)))|((refine⟨_,_,?l1,C5 hA _ _,rfl,?_⟩);(case l1=>exact rfl))
  refine oK_ (msk 163 [2,3,4,5,6,7,8,9]) (OKs.mv [0,1] [] (by rw[hρ];rfl) ⟨by decide,by simp[Bd],by simp⟩ (ih _ _ ⟨A.ib .add .i64 1 1,rfl,by simp(disch:=omega)only[hA,Ba]<;>omega,by simp(disch:=omega)only[hA,Ba]<;>omega,rfl⟩ (by simp(disch:=omega)only[hA,Ba]<;>omega)))
 clear ih
 with_reducible refine Bf hA hd hQ 200 ?hk ?_
 case hk=>trivial
 conv=>arg 9;cbv
 try simp only[OK]
 repeat' first|(with_reducible refine OKK.loop ?_)|((with_reducible refine⟨fun hbr=>?_,fun hbr=>?_⟩)<;>(try simp(disch:=omega)only[hA,Ba]at hbr)<;>(try (with_reducible exfalso;omega)))|((with_reducible refine Be hA hd hQ 200 ?hk ?_);(case hk=>trivial);(conv=>arg 9;cbv);(try simp only[OK]))
 refine oK_ (msk 163 [2,3,4,5,6,7,8,10,11]) (OKs.mv [0,1] [] (by rw[hρ];rfl) ⟨by decide,by simp[Bd],by simp⟩ ?_)
 refine oL_ (fun m st=>∃z:Int,m=((2:Int)-z).toNat/\0<=z/\z<=2/\st=⟨mkT 163 [(2,.ptr 0 0),(3,.ptr 1 0),(4,.lit (.int .i64 0)),(5,.lit (.int .i64 0)),(6,.lit (.int .i64 2)),(7,.lit (.int .i64 0)),(8,.lit (.int .i64 0)),(10,.lit (.int .i64 (A.ib .add .i64 0 N))),(11,.lit (.int .i64 z))],[.blk fC,.blk (dX N M B)]⟩) (fun m st hs' ih=>?_) ⟨0,rfl,by omega,by omega,rfl⟩
 obtain⟨z,hm,hz0,hz1,rfl⟩:=hs'
 have hz:z=0\/z=1\/z=2:=by omega
 unfold fC dX at *
 have k3:=k2 0 _ (.inl rfl) hE1 hE2
 have k4:=k2 1 _ (.inr rfl) hE1 hE2
 rcases hz with rfl|rfl|rfl
 ·skip
  with_reducible refine Bf hA hd hQ 200 ?hk ?_
  case hk=>trivial
  conv=>arg 9;cbv
  try simp only[OK]
  repeat' first|(with_reducible refine OKK.again ?_)|((with_reducible refine⟨fun hbr=>?_,fun hbr=>?_⟩)<;>(try simp(disch:=omega)only[hA,Ba,not_true_eq_false,reduceCtorEq]at hbr)<;>(try (with_reducible exfalso;omega)))|((with_reducible refine Be hA hd hQ 200 ?hk ?_);(case hk=>trivial);(conv=>arg 9;cbv);(try simp only[OK]))|((with_reducible refine Bn ?hn ?_);(case hn=>((simp(disch:=omega)only[hA,Ba])<;>omega)))|((refine⟨_,_,?l1,Ct hA _ _,rfl,?_⟩);(case l1=>exact rfl))|((with_reducible refine cO ?hg ?_);(case hg=>with_reducible exact Bi F158_ok);refine tM (Iz _) ?_;rintro _ _ ⟨rfl,rfl⟩)|((with_reducible refine cO ?hg ?_);(case hg=>with_reducible exact Bi F157_ok);(refine tM (k3 _) fun v hh hx=>?_);(obtain⟨⟨w1,hv,hw1⟩,hh'⟩:=hx;subst hv;subst hh'))
  refine oK_ (msk 163 [2,3,4,5,6,7,8,10,11]) (OKs.mv [0,1] [] (by rw[hρ];rfl) ⟨by decide,by simp[Bd],by simp⟩ (ih _ _ ⟨A.ib .add .i64 0 1,rfl,by simp(disch:=omega)only[hA,Ba]<;>omega,by simp(disch:=omega)only[hA,Ba]<;>omega,rfl⟩ (by simp(disch:=omega)only[hA,Ba]<;>omega)))
 ·skip
  with_reducible refine Bf hA hd hQ 200 ?hk ?_
  case hk=>trivial
  conv=>arg 9;cbv
  try simp only[OK]
  repeat' first|(with_reducible refine OKK.again ?_)|((with_reducible refine⟨fun hbr=>?_,fun hbr=>?_⟩)<;>(try simp(disch:=omega)only[hA,Ba,reduceCtorEq]at hbr)<;>(try (with_reducible exfalso;omega)))|((with_reducible refine Be hA hd hQ 200 ?hk ?_);(case hk=>trivial);(conv=>arg 9;cbv);(try simp only[OK]))|((with_reducible refine Bn ?hn ?_);(case hn=>((simp(disch:=omega)only[hA,Ba])<;>omega)))|((refine⟨_,_,?l1,C5 hA _ _,rfl,?_⟩);(case l1=>exact rfl))|((with_reducible refine cO ?hg ?_);(case hg=>with_reducible exact Bi F158_ok);refine tM (Iz _) ?_;rintro _ _ ⟨rfl,rfl⟩)|((with_reducible refine cO ?hg ?_);(case hg=>with_reducible exact Bi F157_ok);(refine tM (k4 _) fun v hh hx=>?_);(obtain⟨⟨w1,hv,hw1⟩,hh'⟩:=hx;subst hv;subst hh';replace hw1:=hw1 rfl))
  refine oK_ (msk 163 [2,3,4,5,6,7,8,10,11]) (OKs.mv [0,1] [] (by rw[hρ];rfl) ⟨by decide,by simp[Bd],by simp⟩ (ih _ _ ⟨A.ib .add .i64 1 1,rfl,by simp(disch:=omega)only[hA,Ba]<;>omega,by simp(disch:=omega)only[hA,Ba]<;>omega,rfl⟩ (by simp(disch:=omega)only[hA,Ba]<;>omega)))
 clear ih
 with_reducible refine Bf hA hd hQ 200 ?hk ?_
 case hk=>trivial
 conv=>arg 9;cbv
 try simp only[OK]
 repeat' first|(with_reducible refine OKK.loop ?_)|((with_reducible refine⟨fun hbr=>?_,fun hbr=>?_⟩)<;>(try simp(disch:=omega)only[hA,Ba]at hbr)<;>(try (with_reducible exfalso;omega)))|((with_reducible refine Be hA hd hQ 200 ?hk ?_);(case hk=>trivial);(conv=>arg 9;cbv);(try simp only[OK]))
 refine OKs.loopU ?_
 with_reducible refine Bf hA hd hQ 200 ?hk ?_
 case hk=>trivial
 conv=>arg 9;cbv
 try simp only[OK]
 repeat' first|((with_reducible refine⟨fun hbr=>?_,fun hbr=>?_⟩)<;>(try simp(disch:=omega)only[hA,Ba]at hbr)<;>(try (with_reducible exfalso;omega)))|((with_reducible refine Be hA hd hQ 200 ?hk ?_);(case hk=>trivial);(conv=>arg 9;cbv);(try simp only[OK]))
 all_goals exact fI_ rfl rfl
theorem N4{n i:Nat}(h:i<n):List.take 1 (List.drop i (sxt n))=[.lit (.int .i64 16)]:=by
 unfold sxt
 rw[List.drop_replicate,List.take_replicate,show min 1 (n-i)=1 by omega];rfl
def Cp:EV:=.agg [.lit (.int .i64 0),.lit (.slice none 0 0),.lit (.int .i64 0)]
theorem T6(N:Int)(M:Nat)(B:List EV)(hN:0<=N/\N<=4096)(hM:(M:Int)=8*N)(h:EH):Tri Tryz.prog gs 65 [.agg fC,.agg (dX N M B),.lit (.slice none 0 0)] h fun v h'=>v=Cp/\h'=h:=by
 have k1:=U4 N M B hN hM
 have k2:=Yu N M B hN
 have k3:=UB N M B hN
 have k4:=RJ
 have k5:=So N M B hN
 refine Tri.valA rfl rfl (Bk F65_ok fun I0 ρ0 w0 Q hρ hQ=>?_) h
 have hS:=fun i (h:i<N.toNat)=>N4 h
 obtain⟨L,hL⟩:∃L,L=N.toNat:=⟨_,rfl⟩
 obtain⟨S,hS2⟩:∃S,S=sxt L:=⟨_,rfl⟩
 rw[<-hL]at k5 hS
 rw[<-hS2]at k5 hS
 replace hS:=Hid.mk hS
 obtain⟨A,hA⟩:∃A,A=stdA:=⟨_,rfl⟩
 unfold fC at *
 with_reducible refine Bf hA hd hQ 200 ?hk ?_
 case hk=>trivial
 conv=>arg 9;cbv
 try simp only[OK]
 repeat' first|(with_reducible refine OKK.loop ?_)|((with_reducible refine⟨fun hbr=>?_,fun hbr=>?_⟩)<;>(try simp(disch:=omega)only[hA,Ba]at hbr)<;>(try (with_reducible exfalso;omega)))|((with_reducible refine Be hA hd hQ 200 ?hk ?_);(case hk=>trivial);(conv=>arg 9;cbv);(try simp only[OK]))|((with_reducible refine cO ?hg ?_);(case hg=>with_reducible exact Bi F105_ok);refine tM (k1 _) ?_;rintro _ _ ⟨rfl,rfl⟩)|((with_reducible refine cO ?hg ?_);(case hg=>with_reducible exact Bi F107_ok);refine tM (k2 _) ?_;rintro _ _ ⟨rfl,rfl⟩)|((with_reducible refine cO ?hg ?_);(case hg=>with_reducible exact Bi F108_ok);refine tM (k3 _) ?_;rintro _ _ ⟨rfl,rfl⟩)|((with_reducible refine cO ?hg ?_);(case hg=>with_reducible exact Bi F109_ok);refine tM (k4 _) ?_;rintro _ _ ⟨rfl,rfl⟩)
 refine OKs.loopU ?_
 with_reducible refine Bf hA hd hQ 200 ?hk ?_
 case hk=>trivial
 conv=>arg 9;cbv
 try simp only[OK]
 repeat' first|(with_reducible refine OKK.loop ?_)|((with_reducible refine⟨fun hbr=>?_,fun hbr=>?_⟩)<;>(try simp(disch:=omega)only[hA,Ba]at hbr)<;>(try (with_reducible exfalso;omega)))|((with_reducible refine Be hA hd hQ 200 ?hk ?_);(case hk=>trivial);(conv=>arg 9;cbv);(try simp only[OK]))|((with_reducible refine cO ?hg ?_);(case hg=>with_reducible exact Bi F112_ok);refine tM (k5 _) ?_;rintro _ _ ⟨rfl,rfl⟩)
 refine oK_ (msk 124 [6,16,17,18]) (OKs.mv [2] [] (by rw[hρ];rfl) ⟨by decide,by simp[Bd],by simp⟩ ?_)
 refine oL_ (fun m st=>∃z s:Int,m=(N-z).toNat/\0<=z/\z<=N/\s=16*z/\st=⟨mkT 124 [(6,.ptr 0 0),(16,.isl L none S),(17,.lit (.int .i64 s)),(18,.lit (.int .i64 z))],[.blk [.lit (.int .i64 0),.lit (.slice none 0 0),.lit (.int .i64 0)]]⟩)
  (fun m st hs' ih=>?_) ⟨0,0,rfl,by omega,by omega,rfl,rfl⟩
 obtain⟨z,s,hm,hz0,hz1,hs,rfl⟩:=hs'
 have hLk:z<N->List.take 1 (List.drop (A.idx 0 z 1) S)=[.lit (.int .i64 16)]:=fun hz=>by
  rw[hA,B0,Nat.zero_add,Nat.mul_one];exact hS.out _ (by omega)
 with_reducible refine Bf hA hd hQ 200 ?hk ?_
 case hk=>trivial
 conv=>arg 9;cbv
 try simp only[OK]
 repeat' first|(with_reducible refine OKK.again ?_)|((with_reducible refine⟨fun hbr=>?_,fun hbr=>?_⟩)<;>(try simp(disch:=omega)only[hA,Ba]at hbr)<;>(try (with_reducible exfalso;omega)))|((with_reducible refine Be hA hd hQ 200 ?hk ?_);(case hk=>trivial);(conv=>arg 9;cbv);(try simp only[OK]))|((with_reducible refine Bn ?hn ?_);(case hn=>((simp(disch:=omega)only[hA,Ba])<;>omega)))|((refine⟨_,_,?l1,(hLk (by omega)),rfl,?_⟩);(case l1=>exact rfl))
 ·refine oK_ (msk 124 [6,16,17,18]) (OKs.mv [0] [] (by rw[hρ];rfl) ⟨by decide,by simp[Bd],by simp⟩ (ih _ _ ⟨A.ib .add .i64 z 1,A.ib .add .i64 s 16,rfl,by simp(disch:=omega)only[hA,Ba]<;>omega,by simp(disch:=omega)only[hA,Ba]<;>omega,by simp(disch:=omega)only[hA,Ba]<;>omega,rfl⟩ (by simp(disch:=omega)only[hA,Ba]<;>omega)))
 ·exact fI_ rfl rfl
theorem Lf(N:Int)(M:Nat)(B:List EV)(hN:0<=N/\N<=4096)(hM:(M:Int)=8*N)(h:EH):Tri Tryz.prog gs 17 [.agg fC,.agg (dX N M B)] h fun v h'=>v=Cp/\h'=h:=by
 have k1:=LC (.inl rfl)
 have k2:=T6 N M B hN hM
 refine Tri.valA rfl rfl (Bk F17_ok fun I0 ρ0 w0 Q hρ hQ=>?_) h
 obtain⟨A,hA⟩:∃A,A=stdA:=⟨_,rfl⟩
 unfold Cp at *
 with_reducible refine Bf hA hd hQ 200 ?hk ?_
 case hk=>trivial
 conv=>arg 9;cbv
 try simp only[OK]
 repeat' first|((with_reducible refine⟨fun hbr=>?_,fun hbr=>?_⟩)<;>(try simp(disch:=omega)only[hA,Ba,reduceCtorEq]at hbr)<;>(try (with_reducible exfalso;omega)))|((with_reducible refine Be hA hd hQ 200 ?hk ?_);(case hk=>trivial);(conv=>arg 9;cbv);(try simp only[OK]))|((with_reducible refine cO ?hg ?_);(case hg=>with_reducible exact Bi F21_ok);refine tM (k1 _) ?_;rintro _ _ ⟨rfl,rfl⟩)|((with_reducible refine cO ?hg ?_);(case hg=>with_reducible exact Bi F65_ok);refine tM (k2 _) ?_;rintro _ _ ⟨rfl,rfl⟩)
 all_goals exact fI_ rfl rfl
theorem VI(b:List Nat)(p n:Nat)(h:p<b.length):leV ((b.drop p).take (n+1))=b.getD p 0+256*leV ((b.drop (p+1)).take n):=by
 rw[List.drop_eq_getElem_cons h,List.take_succ_cons,leV,lG,lE h];rfl
theorem JI(h:EH):Tri Tryz.prog gs 51 [.agg fC] h fun v h'=>v=Cp/\h'=h:=closedA (by kernel_rfl) rfl rfl h
theorem VH(h:EH):Tri Tryz.prog gs 275 [.agg tC] h fun v h'=>v = .tup [.lit (.int .i64 2),.lit (.int .i64 0),.lit (.int .i64 0)]/\h'=h:=closedA (by kernel_rfl) rfl rfl h
theorem Uv(h:EH):Tri Tryz.prog gs 303 [.agg tC] h fun v h'=>v = .lit (.int .i64 8)/\h'=h:=closedA (by kernel_rfl) rfl rfl h
theorem K6(h:EH):Tri Tryz.prog gs 306 [.lit (.int .i64 11)] h fun v h'=>IsP True v/\h'=h:=by
 refine Tri.boolC rfl (Bk F306_ok fun I0 ρ0 w0 Q hρ hQ=>?_) h
 obtain⟨A,hA⟩:∃A,A=stdA:=⟨_,rfl⟩
 with_reducible refine Bf hA hd hQ 200 ?hk ?_
 case hk=>trivial
 conv=>arg 9;cbv
 try simp only[OK]
 repeat' first|((with_reducible refine⟨fun hbr=>?_,fun hbr=>?_⟩)<;>(try simp(disch:=omega)only[hA,Ba]at hbr)<;>(try (with_reducible exfalso;omega)))|((with_reducible refine Be hA hd hQ 200 ?hk ?_);(case hk=>trivial);(conv=>arg 9;cbv);(try simp only[OK]))
 all_goals (try (with_reducible refine FinR.self ?_;first|refine FinR.bl rfl ?_|refine FinR.bs rfl ?_|refine FinR.blh rfl ?_ rfl|refine FinR.bsh rfl ?_ rfl))
 all_goals (try simp(disch:=omega)only[hA,Ba,iff_true])
 all_goals omega
theorem N9(N r:Int)(M:Nat)(B:List EV)(h:EH):Tri Tryz.prog gs 280 [.agg fC,.agg (dX N M B),.lit (.int .i64 r)] h fun v h'=>v = .lit (.bool false)/\h'=h:=by
 refine Tri.valA rfl rfl (Bk F280_ok fun I0 ρ0 w0 Q hρ hQ=>?_) h
 obtain⟨A,hA⟩:∃A,A=stdA:=⟨_,rfl⟩
 unfold fC dX
 with_reducible refine Bf hA hd hQ 200 ?hk ?_
 case hk=>trivial
 conv=>arg 9;cbv
 try simp only[OK]
 repeat' first|((with_reducible refine⟨fun hbr=>?_,fun hbr=>?_⟩)<;>(try simp(disch:=omega)only[hA,Ba,reduceCtorEq]at hbr)<;>(try (with_reducible exfalso;omega)))|((with_reducible refine Be hA hd hQ 200 ?hk ?_);(case hk=>trivial);(conv=>arg 9;cbv);(try simp only[OK]))|((with_reducible refine Bn ?hn ?_);(case hn=>((simp(disch:=omega)only[hA,Ba])<;>omega)))|((refine⟨_,_,?l1,(Ct hA _ _),rfl,?_⟩);(case l1=>exact rfl))|((with_reducible refine cO ?hg ?_);(case hg=>with_reducible exact Bi F306_ok);(refine tM (K6 _) fun v hh hx=>?_);(obtain⟨⟨b,hv,hb⟩,he⟩:=hx;subst hv;subst he;cases b<;>simp(disch:=omega)only[not_true_eq_false,bF,false_iff,eq_self]at hb)<;>(try (with_reducible exfalso;omega)))
 all_goals exact fI_ rfl rfl
theorem Vk(k e m:Int)(hk:(k=0/\m=0)\/k=1)(he1:0<=e)(he2:e<=4096)(h:EH):Tri Tryz.prog gs 276 [.agg tC,.lit (.int .i64 k),.lit (.int .i64 e),.lit (.int .i64 m)] h fun v h'=>IsN .i64 (fun z=>(k=0->z=0)/\(k=1->z=8*e)) v/\h'=h:=by
 refine Tri.intC rfl (Bk F276_ok fun I0 ρ0 w0 Q hρ hQ=>?_) h
 obtain⟨A,hA⟩:∃A,A=stdA:=⟨_,rfl⟩
 have k1:=Uv
 unfold tC at *
 with_reducible refine Bf hA hd hQ 200 ?hk ?_
 case hk=>trivial
 conv=>arg 9;cbv
 try simp only[OK]
 repeat' first|((with_reducible refine⟨fun hbr=>?_,fun hbr=>?_⟩)<;>(try simp(disch:=omega)only[hA,Ba]at hbr)<;>(try (with_reducible exfalso;omega)))|((with_reducible refine Be hA hd hQ 200 ?hk ?_);(case hk=>trivial);(conv=>arg 9;cbv);(try simp only[OK]))|((with_reducible refine cO ?hg ?_);(case hg=>with_reducible exact Bi F303_ok);refine tM (k1 _) ?_;rintro _ _ ⟨rfl,rfl⟩)
 all_goals refine fI_ rfl ⟨_,rfl,?_,?_⟩
 all_goals first|(intro hk1;exfalso;omega)|(intro hk1;simp(disch:=omega)only[hA,Ba]<;>omega)|(intro hk1;rfl)
theorem Sb(N:Int)(M:Nat)(B:List EV)(hN:0<=N/\N<=4096)(h:EH):Tri Tryz.prog gs 304 [.agg fC,.agg (dX N M B)] h fun v h'=>v = .lit (.int .i64 0)/\h'=h:=by
 have k1:=fun r=>N9 N r M B
 refine Tri.valA rfl rfl (Bk F304_ok fun I0 ρ0 w0 Q hρ hQ=>?_) h
 obtain⟨A,hA⟩:∃A,A=stdA:=⟨_,rfl⟩
 with_reducible refine Bf hA hd hQ 200 ?hk ?_
 case hk=>trivial
 conv=>arg 9;cbv
 try simp only[OK]
 repeat' first|(with_reducible refine OKK.loop ?_)
 refine oK_ (msk 23 [2,3,5,8,9]) (OKs.mv [0,1] [] (by rw[hρ];rfl) ⟨by decide,by simp[Bd],by simp⟩ ?_)
 refine oL_ (fun m st=>∃z:Int,m=((N:Int)-z).toNat/\0<=z/\z<=N/\st=⟨mkT 23 [(2,.ptr 0 0),(3,.ptr 1 0),(5,.lit (.int .i64 0)),(8,.lit (.int .i64 N)),(9,.lit (.int .i64 z))],[.blk fC,.blk (dX N M B)]⟩) (fun m st hs' ih=>?_) ⟨0,rfl,by omega,by omega,rfl⟩
 obtain⟨z,hm,hz0,hz1,rfl⟩:=hs'
 unfold fC dX at *
 with_reducible refine Bf hA hd hQ 200 ?hk ?_
 case hk=>trivial
 conv=>arg 9;cbv
 try simp only[OK]
 repeat' first|(with_reducible refine OKK.again ?_)|((with_reducible refine⟨fun hbr=>?_,fun hbr=>?_⟩)<;>(try simp(disch:=omega)only[hA,Ba]at hbr)<;>(try (with_reducible exfalso;omega)))|((with_reducible refine Be hA hd hQ 200 ?hk ?_);(case hk=>trivial);(conv=>arg 9;cbv);(try simp only[OK]))|((with_reducible refine cO ?hg ?_);(case hg=>with_reducible exact Bi F280_ok);refine tM (k1 _ _) ?_;rintro _ _ ⟨rfl,rfl⟩)
 ·refine oK_ (msk 23 [2,3,5,8,9]) (OKs.mv [0,1] [] (by rw[hρ];rfl) ⟨by decide,by simp[Bd],by simp⟩ (ih _ _ ⟨A.ib .add .i64 z 1,rfl,by simp(disch:=omega)only[hA,Ba]<;>omega,by simp(disch:=omega)only[hA,Ba]<;>omega,rfl⟩ (by simp(disch:=omega)only[hA,Ba]<;>omega)))
 ·exact fI_ rfl rfl
theorem VJ(N:Int)(M:Nat)(B:List EV)(hN:0<=N/\N<=4096)(h:EH):Tri Tryz.prog gs 277 [.agg fC,.agg (dX N M B)] h fun v h'=>v=Cp/\h'=h:=by
 have k1:=Sb N M B hN
 refine Tri.valA rfl rfl (Bk F277_ok fun I0 ρ0 w0 Q hρ hQ=>?_) h
 obtain⟨A,hA⟩:∃A,A=stdA:=⟨_,rfl⟩
 unfold fC dX at *
 with_reducible refine Bf hA hd hQ 200 ?hk ?_
 case hk=>trivial
 conv=>arg 9;cbv
 try simp only[OK]
 repeat' first|((with_reducible refine⟨fun hbr=>?_,fun hbr=>?_⟩)<;>(try simp(disch:=omega)only[hA,Ba]at hbr)<;>(try (with_reducible exfalso;omega)))|((with_reducible refine Be hA hd hQ 200 ?hk ?_);(case hk=>trivial);(conv=>arg 9;cbv);(try simp only[OK]))|((with_reducible refine cO ?hg ?_);(case hg=>with_reducible exact Bi F304_ok);refine tM (k1 _) ?_;rintro _ _ ⟨rfl,rfl⟩)
 all_goals exact fI_ rfl rfl
theorem SB(N:Int)(M:Nat)(B:List EV)(h:EH):Tri Tryz.prog gs 218 [.agg fC,.agg (dX N M B)] h fun v h'=>v=Cp/\h'=h:=by
 refine Tri.valA rfl rfl (Bk F218_ok fun I0 ρ0 w0 Q hρ hQ=>?_) h
 obtain⟨A,hA⟩:∃A,A=stdA:=⟨_,rfl⟩
 unfold fC dX at *
 with_reducible refine Bf hA hd hQ 200 ?hk ?_
 case hk=>trivial
 conv=>arg 9;cbv
 try simp only[OK]
 repeat' first|((with_reducible refine⟨fun hbr=>?_,fun hbr=>?_⟩)<;>(try simp(disch:=omega)only[hA,Ba]at hbr)<;>(try (with_reducible exfalso;omega)))|((with_reducible refine Be hA hd hQ 200 ?hk ?_);(case hk=>trivial);(conv=>arg 9;cbv);(try simp only[OK]))
 all_goals exact fI_ rfl rfl
theorem SS(N:Int)(M:Nat)(B:List EV)(h:EH):Tri Tryz.prog gs 219 [.agg (dX N M B)] h fun v h'=>v = .lit (.slice none 0 0)/\h'=h:=by
 refine Tri.valA rfl rfl (Bk F219_ok fun I0 ρ0 w0 Q hρ hQ=>?_) h
 obtain⟨A,hA⟩:∃A,A=stdA:=⟨_,rfl⟩
 unfold dX at *
 with_reducible refine Bf hA hd hQ 200 ?hk ?_
 case hk=>trivial
 conv=>arg 9;cbv
 try simp only[OK]
 repeat' first|((with_reducible refine⟨fun hbr=>?_,fun hbr=>?_⟩)<;>(try simp(disch:=omega)only[hA,Ba]at hbr)<;>(try (with_reducible exfalso;omega)))|((with_reducible refine Be hA hd hQ 200 ?hk ?_);(case hk=>trivial);(conv=>arg 9;cbv);(try simp only[OK]))
 all_goals exact fI_ rfl rfl
theorem RU(N:Int)(M:Nat)(B:List EV)(hN:0<=N/\N<=4096)(hM:(M:Int)=8*N)(h:EH):Tri Tryz.prog gs 217 [.agg fC,.agg (dX N M B)] h fun v h'=>v=Cp/\h'=h:=by
 have k1:=VJ N M B hN
 have k2:=VH
 have k3:=Vk
 refine Tri.valA rfl rfl (Bk F217_ok fun I0 ρ0 w0 Q hρ hQ=>?_) h
 obtain⟨A,hA⟩:∃A,A=stdA:=⟨_,rfl⟩
 unfold fC dX tC at *
 with_reducible refine Bf hA hd hQ 200 ?hk ?_
 case hk=>trivial
 conv=>arg 9;cbv
 try simp only[OK]
 repeat' first|(with_reducible refine OKK.loop ?_)|((with_reducible refine⟨fun hbr=>?_,fun hbr=>?_⟩)<;>(try simp(disch:=omega)only[hA,Ba]at hbr)<;>(try (with_reducible exfalso;omega)))|((with_reducible refine Be hA hd hQ 200 ?hk ?_);(case hk=>trivial);(conv=>arg 9;cbv);(try simp only[OK]))|((with_reducible refine cO ?hg ?_);(case hg=>with_reducible exact Bi F275_ok);refine tM (k2 _) ?_;rintro _ _ ⟨rfl,rfl⟩)
 have hE1:0<=A.ib .add .i64 0 N:=by simp(disch:=omega)only[hA,Ba]<;>omega
 have hE2:A.ib .add .i64 0 N<=4096:=by simp(disch:=omega)only[hA,Ba]<;>omega
 have hE3:A.ib .add .i64 0 N=N:=by simp(disch:=omega)only[hA,Ba]<;>omega
 refine oK_ (msk 161 [2,3,4,5,8,85,86,87]) (OKs.mv [0,1,2] [] (by rw[hρ];rfl) ⟨by decide,by simp[Bd],by simp⟩ ?_)
 refine oL_ (fun m st=>∃z:Int,m=((2:Int)-z).toNat/\0<=z/\z<=2/\st=⟨mkT 161 [(2,.ptr 0 0),(3,.ptr 1 0),(4,.ptr 2 0),(5,.lit (.int .i64 2)),(8,.lit (.int .i64 (A.ib .add .i64 0 N))),(85,.isl 2 none [.isl 0 none [],.isl M none B]),(86,.lit (.int .i64 (A.ofn 2))),(87,.lit (.int .i64 z))],[.blk fC,.blk (dX N M B),.blk [.lit (.int .i64 0),.lit (.slice none 0 0),.lit (.int .i64 0)]]⟩) (fun m st hs' ih=>?_) ⟨0,rfl,by omega,by omega,rfl⟩
 obtain⟨z,hm,hz0,hz1,rfl⟩:=hs'
 have hz:z=0\/z=1\/z=2:=by omega
 unfold fC dX at *
 rcases hz with rfl|rfl|rfl
 ·skip
  with_reducible refine Bf hA hd hQ 200 ?hk ?_
  case hk=>trivial
  conv=>arg 9;cbv
  try simp only[OK]
  repeat' first|(with_reducible refine OKK.again ?_)|((with_reducible refine⟨fun hbr=>?_,fun hbr=>?_⟩)<;>(try simp(disch:=omega)only[hA,Ba]at hbr)<;>(try (with_reducible exfalso;omega)))|((with_reducible refine Be hA hd hQ 200 ?hk ?_);(case hk=>trivial);(conv=>arg 9;cbv);(try simp only[OK]))|((with_reducible refine Bn ?hn ?_);(case hn=>((simp(disch:=omega)only[hA,Ba])<;>omega)))|((refine⟨_,_,?l1,Ct hA _ _,rfl,?_⟩);(case l1=>exact rfl))
  refine oK_ (msk 161 [2,3,4,5,8,85,86,87]) (OKs.mv [0,1,2] [] (by rw[hρ];rfl) ⟨by decide,by simp[Bd],by simp⟩ (ih _ _ ⟨A.ib .add .i64 0 1,rfl,by simp(disch:=omega)only[hA,Ba]<;>omega,by simp(disch:=omega)only[hA,Ba]<;>omega,rfl⟩ (by simp(disch:=omega)only[hA,Ba]<;>omega)))
 ·skip
  with_reducible refine Bf hA hd hQ 200 ?hk ?_
  case hk=>trivial
  conv=>arg 9;cbv
  try simp only[OK]
  repeat' first|(with_reducible refine OKK.again ?_)|((with_reducible refine⟨fun hbr=>?_,fun hbr=>?_⟩)<;>(try simp(disch:=omega)only[hA,Ba]at hbr)<;>(try (with_reducible exfalso;omega)))|((with_reducible refine Be hA hd hQ 200 ?hk ?_);(case hk=>trivial);(conv=>arg 9;cbv);(try simp only[OK]))|((with_reducible refine Bn ?hn ?_);(case hn=>((simp(disch:=omega)only[hA,Ba])<;>omega)))|((refine⟨_,_,?l1,C5 hA _ _,rfl,?_⟩);(case l1=>exact rfl))
  refine oK_ (msk 161 [2,3,4,5,8,85,86,87]) (OKs.mv [0,1,2] [] (by rw[hρ];rfl) ⟨by decide,by simp[Bd],by simp⟩ (ih _ _ ⟨A.ib .add .i64 1 1,rfl,by simp(disch:=omega)only[hA,Ba]<;>omega,by simp(disch:=omega)only[hA,Ba]<;>omega,rfl⟩ (by simp(disch:=omega)only[hA,Ba]<;>omega)))
 clear ih
 with_reducible refine Bf hA hd hQ 200 ?hk ?_
 case hk=>trivial
 conv=>arg 9;cbv
 try simp only[OK]
 repeat' first|(with_reducible refine OKK.loop ?_)|((with_reducible refine⟨fun hbr=>?_,fun hbr=>?_⟩)<;>(try simp(disch:=omega)only[hA,Ba]at hbr)<;>(try (with_reducible exfalso;omega)))|((with_reducible refine Be hA hd hQ 200 ?hk ?_);(case hk=>trivial);(conv=>arg 9;cbv);(try simp only[OK]))
 refine oK_ (msk 161 [2,3,4,5,8,99,100,101]) (OKs.mv [0,1,2] [] (by rw[hρ];rfl) ⟨by decide,by simp[Bd],by simp⟩ ?_)
 refine oL_ (fun m st=>∃z:Int,m=((2:Int)-z).toNat/\0<=z/\z<=2/\st=⟨mkT 161 [(2,.ptr 0 0),(3,.ptr 1 0),(4,.ptr 2 0),(5,.lit (.int .i64 2)),(8,.lit (.int .i64 (A.ib .add .i64 0 N))),(99,.isl 2 none [.isl 0 none [],.isl M none B]),(100,.lit (.int .i64 (A.ofn 2))),(101,.lit (.int .i64 z))],[.blk fC,.blk (dX N M B),.blk [.lit (.int .i64 0),.lit (.slice none 0 0),.lit (.int .i64 0)]]⟩) (fun m st hs' ih=>?_) ⟨0,rfl,by omega,by omega,rfl⟩
 obtain⟨z,hm,hz0,hz1,rfl⟩:=hs'
 have hz:z=0\/z=1\/z=2:=by omega
 unfold fC dX at *
 have k4:=k3 0 _ (A.ofn 0) (.inl ⟨rfl,by rw[hA];rfl⟩) hE1 hE2
 have k5:=k3 1 _ (A.ofn M) (.inr rfl) hE1 hE2
 clear k3
 rcases hz with rfl|rfl|rfl
 ·skip
  with_reducible refine Bf hA hd hQ 200 ?hk ?_
  case hk=>trivial
  conv=>arg 9;cbv
  try simp only[OK]
  repeat' first|(with_reducible refine OKK.again ?_)|((with_reducible refine⟨fun hbr=>?_,fun hbr=>?_⟩)<;>(try simp(disch:=omega)only[hA,Ba]at hbr)<;>(try (with_reducible exfalso;omega)))|((with_reducible refine Be hA hd hQ 200 ?hk ?_);(case hk=>trivial);(conv=>arg 9;cbv);(try simp only[OK]))|((with_reducible refine Bn ?hn ?_);(case hn=>((simp(disch:=omega)only[hA,Ba])<;>omega)))|((refine⟨_,_,?l1,Ct hA _ _,rfl,?_⟩);(case l1=>exact rfl))|((with_reducible refine cO ?hg ?_);(case hg=>with_reducible exact Bi F276_ok);(refine tM (k4 _) fun v hh hx=>?_);(obtain⟨⟨w1,hv,hw1⟩,hh'⟩:=hx;subst hv;subst hh';replace hw1:=hw1.1 rfl))
  refine oK_ (msk 161 [2,3,4,5,8,99,100,101]) (OKs.mv [0,1,2] [] (by rw[hρ];rfl) ⟨by decide,by simp[Bd],by simp⟩ (ih _ _ ⟨A.ib .add .i64 0 1,rfl,by simp(disch:=omega)only[hA,Ba]<;>omega,by simp(disch:=omega)only[hA,Ba]<;>omega,rfl⟩ (by simp(disch:=omega)only[hA,Ba]<;>omega)))
 ·skip
  with_reducible refine Bf hA hd hQ 200 ?hk ?_
  case hk=>trivial
  conv=>arg 9;cbv
  try simp only[OK]
  repeat' first|(with_reducible refine OKK.again ?_)|((with_reducible refine⟨fun hbr=>?_,fun hbr=>?_⟩)<;>(try simp(disch:=omega)only[hA,Ba]at hbr)<;>(try (with_reducible exfalso;omega)))|((with_reducible refine Be hA hd hQ 200 ?hk ?_);(case hk=>trivial);(conv=>arg 9;cbv);(try simp only[OK]))|((with_reducible refine Bn ?hn ?_);(case hn=>((simp(disch:=omega)only[hA,Ba])<;>omega)))|((refine⟨_,_,?l1,C5 hA _ _,rfl,?_⟩);(case l1=>exact rfl))|((with_reducible refine cO ?hg ?_);(case hg=>with_reducible exact Bi F276_ok);(refine tM (k5 _) fun v hh hx=>?_);(obtain⟨⟨w1,hv,hw1⟩,hh'⟩:=hx;subst hv;subst hh';replace hw1:=hw1.2 rfl))
  refine oK_ (msk 161 [2,3,4,5,8,99,100,101]) (OKs.mv [0,1,2] [] (by rw[hρ];rfl) ⟨by decide,by simp[Bd],by simp⟩ (ih _ _ ⟨A.ib .add .i64 1 1,rfl,by simp(disch:=omega)only[hA,Ba]<;>omega,by simp(disch:=omega)only[hA,Ba]<;>omega,rfl⟩ (by simp(disch:=omega)only[hA,Ba]<;>omega)))
 clear ih
 with_reducible refine Bf hA hd hQ 200 ?hk ?_
 case hk=>trivial
 conv=>arg 9;cbv
 try simp only[OK]
 repeat' first|(with_reducible refine OKK.loop ?_)|((with_reducible refine⟨fun hbr=>?_,fun hbr=>?_⟩)<;>(try simp(disch:=omega)only[hA,Ba]at hbr)<;>(try (with_reducible exfalso;omega)))|((with_reducible refine Be hA hd hQ 200 ?hk ?_);(case hk=>trivial);(conv=>arg 9;cbv);(try simp only[OK]))
 refine OKs.loopU ?_
 with_reducible refine Bf hA hd hQ 200 ?hk ?_
 case hk=>trivial
 conv=>arg 9;cbv
 try simp only[OK]
 repeat' first|((with_reducible refine⟨fun hbr=>?_,fun hbr=>?_⟩)<;>(try simp(disch:=omega)only[hA,Ba]at hbr)<;>(try (with_reducible exfalso;omega)))|((with_reducible refine Be hA hd hQ 200 ?hk ?_);(case hk=>trivial);(conv=>arg 9;cbv);(try simp only[OK]))|((with_reducible refine cO ?hg ?_);(case hg=>with_reducible exact Bi F277_ok);refine tM (k1 _) ?_;rintro _ _ ⟨rfl,rfl⟩)
 all_goals exact fI_ rfl rfl
theorem Uc(h:EH):Tri Tryz.prog gs 282 [.lit (.slice none 0 0),.lit (.int .i64 0),.lit (.int .i64 0)] h fun v h'=>v = .lit (.slice none 0 0)/\h'=h:=closedA (by kernel_rfl) rfl rfl h
theorem JF(x:EV):∀n:Nat,stdA.rep [x] n=List.replicate n x
 |0=>rfl
 |n+1=>by
  have:=JF x n;rw[Lk]at this ⊢;rw[List.replicate_succ,List.flatten_cons,this,List.replicate_succ];rfl
def sxz(K Z:Nat):List EV:=sxt Z++List.replicate (K-Z) (.lit (.int .i64 0))
theorem TJ{K Z:Nat}(h:Z<=K):(sxz K Z).length=K:=by simp[sxz,GU];omega
theorem Lw(K Z:Nat):clL (sxz K Z)=true:=CU (Is _) (by
 induction K-Z with
 |zero=>rfl
 |succ n ih=>show (true&&clL _)=true;rw[ih];rfl)
theorem RV{A:Ar}(hA:A=stdA){K Z:Nat}{z:Int}(hz:z=Z)(h:Z<K):A.setl (sxz K Z) (A.idx 0 z 1) [.lit (.int .i64 16)]=sxz K (Z+1):=by
 subst hz
 rw[hA,B0,Nat.zero_add,Nat.mul_one,Int.toNat_natCast,EB]
 unfold sxz
 rw[List.take_append_of_le_length (by rw[GU];omega),lT (by rw[GU];omega),List.drop_append,List.drop_of_length_le (by rw[GU];simp),lN,GU,Ng,List.drop_replicate]
 congr 2
 simp;omega
theorem Y7(N:Int)(M:Nat)(B:List EV)(hN:0<=N/\N<=4096):Tri Tryz.prog gs 222 [.agg fC,.agg (dX N M B),.lit (.slice none 0 0)] [] fun v h'=>∃(i es:Nat) (c:Option Nat),v = .sl es i 0 N.toNat c/\Bh h' i = .blk (sxt N.toNat):=by
 have k1:=fun r=>N9 N r M B
 refine Bk F222_ok fun I0 ρ0 w0 Q hρ hQ=>?_
 obtain⟨A,hA⟩:∃A,A=stdA:=⟨_,rfl⟩
 with_reducible refine Bf hA hd hQ 200 ?hk ?_
 case hk=>trivial
 conv=>arg 9;cbv
 try simp only[OK]
 repeat' first|(with_reducible refine OKK.loop ?_)|((with_reducible refine Bn ?hn ?_);(case hn=>((simp(disch:=omega)only[hA,Ba])<;>omega)))
 refine oK_ (msk 207 [2,3,4,7,8,9,25,26]) (OKs.mv [0,1,2,3] [] (by rw[hρ];rfl) ⟨by decide,by simp[Bd],by simp⟩ ?_)
 refine oL_ (fun m st=>∃(z:Int) (Z:Nat) (c:List EV),m=(N-z).toNat/\0<=z/\z<=N/\Z=z.toNat/\c=sxz N.toNat Z/\
   st=⟨mkT 207 [(2,.lit (.slice none 0 0)),(3,.ptr 0 0),(4,.ptr 1 0),(7,.ptr 2 0),(8,.sl 1 3 0 (A.tn N) (some (A.tn N))),(9,.lit (.int .i64 0)),(25,.lit (.int .i64 (A.ofn (A.tn N)))),(26,.lit (.int .i64 z))],[.blk fC,.blk (dX N M B),.blk tC,.blk c]⟩)
  (fun m st hs' ih=>?_) ⟨0,0,_,rfl,by omega,by omega,rfl,?_,rfl⟩
 rotate_left
 ·have e:A.rep [.lit (.int .i64 0)] (A.tn N)=sxz N.toNat 0:=by rw[hA,JF];rfl
  refine(BA _ _ _ ?_).trans ?_
  ·show clL (A.rep [.lit (.int .i64 0)] (A.tn N))=true
   rw[e];exact(Lw N.toNat 0)
  ·exact e
 obtain⟨z,Z,c,hm,hz0,hz1,hZ,hc,rfl⟩:=hs'
 have hcl:c.length=N.toNat:=by rw[hc];exact TJ (by omega)
 have hnx:Hid (z<N->A.setl c (A.idx 0 z 1) [.lit (.int .i64 16)]=sxz N.toNat (Z+1)):=Hid.mk fun h=>by rw[hc];exact RV hA (by omega) (by omega)
 unfold fC dX tC at *
 with_reducible refine Bf hA hd hQ 200 ?hk ?_
 case hk=>trivial
 conv=>arg 9;cbv
 try simp only[OK]
 repeat' first|(with_reducible refine OKK.loop ?_)|((with_reducible refine⟨fun hbr=>?_,fun hbr=>?_⟩)<;>(try simp(disch:=omega)only[hA,Ba]at hbr)<;>(try (with_reducible exfalso;omega)))|((with_reducible refine Be hA hd hQ 200 ?hk ?_);(case hk=>trivial);(conv=>arg 9;cbv);(try simp only[OK]))|((with_reducible refine Bn ?hn ?_);(case hn=>((simp(disch:=omega)only[hA,Ba])<;>omega)))|((with_reducible refine cO ?hg ?_);(case hg=>with_reducible exact Bi F280_ok);refine tM (k1 _ _) ?_;rintro _ _ ⟨rfl,rfl⟩)|((with_reducible refine cO ?hg ?_);(case hg=>with_reducible exact Bi F282_ok);refine tM (Uc _) ?_;rintro _ _ ⟨rfl,rfl⟩)
 ·refine OKs.loopU ?_
  with_reducible refine Bf hA hd hQ 200 ?hk ?_
  case hk=>trivial
  conv=>arg 9;cbv
  try simp only[OK]
  repeat' first|(with_reducible refine OKK.again ?_)|((with_reducible refine⟨fun hbr=>?_,fun hbr=>?_⟩)<;>(try simp(disch:=omega)only[hA,Ba]at hbr)<;>(try (with_reducible exfalso;omega)))|((with_reducible refine Be hA hd hQ 200 ?hk ?_);(case hk=>trivial);(conv=>arg 9;cbv);(try simp only[OK]))
  refine oK_ (msk 207 [2,3,4,7,8,9,25,26]) (OKs.mv [0,1,2,3] [] (by rw[hρ];rfl) ⟨by decide,by simp[Bd],by simp⟩ (ih _ _ ⟨A.ib .add .i64 z 1,Z+1,_,rfl,by simp(disch:=omega)only[hA,Ba]<;>omega,by simp(disch:=omega)only[hA,Ba]<;>omega,by simp(disch:=omega)only[hA,Ba]<;>omega,?_,rfl⟩ (by simp(disch:=omega)only[hA,Ba]<;>omega)))
  have e:=hnx.out (by omega)
  refine(BA _ _ _ ?_).trans ?_
  ·show clL (A.setl c (A.idx 0 z 1) [.lit (.int .i64 16)])=true
   rw[e];exact Lw _ _
  ·exact e
 ·refine fI_ rfl ⟨3,1,some (A.tn N),?_,?_⟩
  ·rw[hA];rfl
  ·show EO.blk c=_
   rw[hc,show Z=N.toNat by omega]
   unfold sxz;rw[Nat.sub_self];exact congrArg EO.blk (List.append_nil _)
theorem VG(N:Int)(M:Nat)(B:List EV)(hN:0<=N/\N<=4096)(h:EH):Tri Tryz.prog gs 222 [.agg fC,.agg (dX N M B),.lit (.slice none 0 0)] h fun v h'=>v = .isl N.toNat none (sxt N.toNat)/\h'=h:=
 Tri.fz1 (Is _) rfl (Y7 N M B hN) h
theorem YT(N:Int)(M:Nat)(B:List EV)(hN:0<=N/\N<=4096)(hM:(M:Int)=8*N)(h:EH):Tri Tryz.prog gs 145 [.agg fC,.agg (dX N M B)] h fun v h'=>v = .tup [Cp,.isl N.toNat none (sxt N.toNat)]/\h'=h:=by
 have k1:=RU N M B hN hM
 have k2:=SB N M B
 have k3:=SS N M B
 have k5:=VG N M B hN
 refine Tri.valA rfl rfl (Bk F145_ok fun I0 ρ0 w0 Q hρ hQ=>?_) h
 have hS:=fun i (h:i<N.toNat)=>N4 h
 obtain⟨L,hL⟩:∃L,L=N.toNat:=⟨_,rfl⟩
 obtain⟨S,hS2⟩:∃S,S=sxt L:=⟨_,rfl⟩
 rw[<-hL]at k5 hS hQ
 rw[<-hS2]at k5 hS hQ
 replace hS:=Hid.mk hS
 obtain⟨A,hA⟩:∃A,A=stdA:=⟨_,rfl⟩
 unfold Cp fC dX at *
 with_reducible refine Bf hA hd hQ 200 ?hk ?_
 case hk=>trivial
 conv=>arg 9;cbv
 try simp only[OK]
 repeat' first|(with_reducible refine OKK.loop ?_)|((with_reducible refine⟨fun hbr=>?_,fun hbr=>?_⟩)<;>(try simp(disch:=omega)only[hA,Ba]at hbr)<;>(try (with_reducible exfalso;omega)))|((with_reducible refine Be hA hd hQ 200 ?hk ?_);(case hk=>trivial);(conv=>arg 9;cbv);(try simp only[OK]))|((with_reducible refine cO ?hg ?_);(case hg=>with_reducible exact Bi F217_ok);refine tM (k1 _) ?_;rintro _ _ ⟨rfl,rfl⟩)|((with_reducible refine cO ?hg ?_);(case hg=>with_reducible exact Bi F218_ok);refine tM (k2 _) ?_;rintro _ _ ⟨rfl,rfl⟩)|((with_reducible refine cO ?hg ?_);(case hg=>with_reducible exact Bi F219_ok);refine tM (k3 _) ?_;rintro _ _ ⟨rfl,rfl⟩)
 refine OKs.loopU ?_
 with_reducible refine Bf hA hd hQ 200 ?hk ?_
 case hk=>trivial
 conv=>arg 9;cbv
 try simp only[OK]
 repeat' first|(with_reducible refine OKK.loop ?_)|((with_reducible refine⟨fun hbr=>?_,fun hbr=>?_⟩)<;>(try simp(disch:=omega)only[hA,Ba]at hbr)<;>(try (with_reducible exfalso;omega)))|((with_reducible refine Be hA hd hQ 200 ?hk ?_);(case hk=>trivial);(conv=>arg 9;cbv);(try simp only[OK]))|((with_reducible refine cO ?hg ?_);(case hg=>with_reducible exact Bi F222_ok);refine tM (k5 _) ?_;rintro _ _ ⟨rfl,rfl⟩)
 refine oK_ (msk 92 [4,14,15,77,78,79]) (OKs.mv [2] [] (by rw[hρ];rfl) ⟨by decide,by simp[Bd],by simp⟩ ?_)
 refine oL_ (fun m st=>∃z s:Int,m=(N-z).toNat/\0<=z/\z<=N/\s=16*z/\st=⟨mkT 92 [(4,.ptr 0 0),(14,.isl L none S),(15,.lit (.int .i64 s)),(77,.isl L none S),(78,.lit (.int .i64 (A.ofn L))),(79,.lit (.int .i64 z))],[.blk [.lit (.int .i64 0),.lit (.slice none 0 0),.lit (.int .i64 0)]]⟩)
  (fun m st hs' ih=>?_) ⟨0,0,rfl,by omega,by omega,rfl,rfl⟩
 obtain⟨z,s,hm,hz0,hz1,hs,rfl⟩:=hs'
 have hLk:z<N->List.take 1 (List.drop (A.idx 0 z 1) S)=[.lit (.int .i64 16)]:=fun hz=>by
  rw[hA,B0,Nat.zero_add,Nat.mul_one];exact hS.out _ (by omega)
 with_reducible refine Bf hA hd hQ 200 ?hk ?_
 case hk=>trivial
 conv=>arg 9;cbv
 try simp only[OK]
 repeat' first|(with_reducible refine OKK.again ?_)|((with_reducible refine⟨fun hbr=>?_,fun hbr=>?_⟩)<;>(try simp(disch:=omega)only[hA,Ba]at hbr)<;>(try (with_reducible exfalso;omega)))|((with_reducible refine Be hA hd hQ 200 ?hk ?_);(case hk=>trivial);(conv=>arg 9;cbv);(try simp only[OK]))|((with_reducible refine Bn ?hn ?_);(case hn=>((simp(disch:=omega)only[hA,Ba])<;>omega)))|((refine⟨_,_,?l1,(hLk (by omega)),rfl,?_⟩);(case l1=>exact rfl))
 ·refine oK_ (msk 92 [4,14,15,77,78,79]) (OKs.mv [0] [] (by rw[hρ];rfl) ⟨by decide,by simp[Bd],by simp⟩ (ih _ _ ⟨A.ib .add .i64 z 1,A.ib .add .i64 s 16,rfl,by simp(disch:=omega)only[hA,Ba]<;>omega,by simp(disch:=omega)only[hA,Ba]<;>omega,by simp(disch:=omega)only[hA,Ba]<;>omega,rfl⟩ (by simp(disch:=omega)only[hA,Ba]<;>omega)))
 ·exact fI_ rfl rfl
theorem Yl(N:Int)(M:Nat)(B:List EV)(hN:0<=N/\N<=4096)(hM:(M:Int)=8*N)(h:EH):Tri Tryz.prog gs 91 [.agg fC,.agg (dX N M B)] h fun v h'=>v=Cp/\h'=h:=by
 have k1:=JI
 have k2:=YT N M B hN hM
 generalize EV.isl N.toNat none (sxt N.toNat)=w at *
 refine Tri.valA rfl rfl (Bk F91_ok fun I0 ρ0 w0 Q hρ hQ=>?_) h
 obtain⟨A,hA⟩:∃A,A=stdA:=⟨_,rfl⟩
 unfold Cp fC dX at *
 with_reducible refine Bf hA hd hQ 200 ?hk ?_
 case hk=>trivial
 conv=>arg 9;cbv
 try simp only[OK]
 repeat' first|((with_reducible refine⟨fun hbr=>?_,fun hbr=>?_⟩)<;>(try simp(disch:=omega)only[hA,Ba]at hbr)<;>(try (with_reducible exfalso;omega)))|((with_reducible refine Be hA hd hQ 200 ?hk ?_);(case hk=>trivial);(conv=>arg 9;cbv);(try simp only[OK]))|((with_reducible refine cO ?hg ?_);(case hg=>with_reducible exact Bi F51_ok);refine tM (k1 _) ?_;rintro _ _ ⟨rfl,rfl⟩)|((with_reducible refine cO ?hg ?_);(case hg=>with_reducible exact Bi F145_ok);refine tM (k2 _) ?_;rintro _ _ ⟨rfl,rfl⟩)
 all_goals exact fI_ rfl rfl
theorem T8(h:EH):Tri Tryz.prog gs 93 [.agg fC] h fun v h'=>v = .agg fC/\h'=h:=closedA (by kernel_rfl) rfl rfl h
theorem Um(h:EH):Tri Tryz.prog gs 149 [.lit (.slice none 0 0)] h fun v h'=>v = .lit (.slice none 0 0)/\h'=h:=closedA (by kernel_rfl) rfl rfl h
theorem Us(h:EH):Tri Tryz.prog gs 146 [.lit (.int .i64 11)] h fun v h'=>v = .iface 288 (.agg [])/\h'=h:=closedA (by kernel_rfl) rfl rfl h
theorem We(M:Nat)(B:List EV)(h:EH):Tri Tryz.prog gs 148 [.isl 2 none [.isl 0 none [],.isl M none B]] h fun v h'=>v = .isl 2 none [.isl 0 none [],.isl M none B]/\h'=h:=by
 refine Tri.fz1 rfl rfl (Bk F148_ok fun I0 ρ0 w0 Q hρ hQ=>?_) h
 obtain⟨A,hA⟩:∃A,A=stdA:=⟨_,rfl⟩
 with_reducible refine Bf hA hd hQ 200 ?hk ?_
 case hk=>trivial
 conv=>arg 9;cbv
 try simp only[OK]
 repeat' first|((with_reducible refine⟨fun hbr=>?_,fun hbr=>?_⟩)<;>(try simp(disch:=omega)only[hA,Ba]at hbr)<;>(try (with_reducible exfalso;omega)))|((with_reducible refine Be hA hd hQ 200 ?hk ?_);(case hk=>trivial);(conv=>arg 9;cbv);(try simp only[OK]))|((with_reducible refine Bn ?hn ?_);(case hn=>((simp(disch:=omega)only[hA,Ba])<;>omega)))
 all_goals exact fI_ rfl ⟨1,1,none,by rw[hA];rfl,by rw[hA];rfl⟩
def aC(N:Int)(M:Nat)(B:List EV):List EV:=fC++dX N M B++[.lit (.int .i64 0),.lit (.int .i64 N),.lit (.pointer none),.iface 288 (.agg [])]
theorem RY(N:Int)(M:Nat)(B:List EV):clL (aC N M B)=true:=rfl
theorem Tri.fzp{P:Program}{G:List (List EV)}{f:FuncId}{args:List EV}{B:List EV}{F:EV->EV}(hB:clL B=true)(ha:clL args=true)(hF1:∀g z x,mvE g z (F x)=F (mvE g z x))(hF3:∀x,clE x=true->clE (F x)=true)
  (t:Tri P G f args [] fun v h'=>∃i,v=F (.ptr i 0)/\Bh h' i = .blk B) (h:EH) :
  Tri P G f args h fun v h'=>v=F (.iptr B 0)/\h'=h:=by
 have t1:Tri P G f args [] fun v h'=>v=F (.iptr B 0):=
  Tri.mv t fun v h' ⟨i,hv,hg⟩=>by
   refine⟨[],[i],rfl,⟨by simp,by simp,fun id hid=>?_⟩,?_⟩
   ·simp at hid;subst hid
    exact⟨_,hg,hB⟩
   ·rw[hv,hF1]
    simp[mvE,mvG,mvZ,inL,hg]
 exact Tri.valA (hF3 _ rfl) ha t1 h
theorem VK(N:Int)(M:Nat)(B:List EV)(h:EH):Tri Tryz.prog gs 94 [.agg (dX N M B)] h fun v h'=>v = .agg (dX N M B)/\h'=h:=by
 have k1:=We M B
 refine Tri.valA rfl rfl (Bk F94_ok fun I0 ρ0 w0 Q hρ hQ=>?_) h
 obtain⟨A,hA⟩:∃A,A=stdA:=⟨_,rfl⟩
 unfold dX at *
 with_reducible refine Bf hA hd hQ 200 ?hk ?_
 case hk=>trivial
 conv=>arg 9;cbv
 try simp only[OK]
 repeat' first|((with_reducible refine Be hA hd hQ 200 ?hk ?_);(case hk=>trivial);(conv=>arg 9;cbv);(try simp only[OK]))|((with_reducible refine cO ?hg ?_);(case hg=>with_reducible exact Bi F148_ok);refine tM (k1 _) ?_;rintro _ _ ⟨rfl,rfl⟩)|((with_reducible refine cO ?hg ?_);(case hg=>with_reducible exact Bi F149_ok);refine tM (Um _) ?_;rintro _ _ ⟨rfl,rfl⟩)
 all_goals exact fI_ rfl rfl
theorem SF(N:Int)(M:Nat)(B:List EV)(h:EH):Tri Tryz.prog gs 92 [.agg fC,.agg (dX N M B),.lit (.pointer none)] h fun v h'=>v = .iptr (aC N M B) 0/\h'=h:=by
 refine Tri.fzp (F:=fun x=>x) (RY N M B) rfl (fun _ _ _=>rfl) (fun _ h=>h) (Bk F92_ok fun I0 ρ0 w0 Q hρ hQ=>?_) h
 obtain⟨A,hA⟩:∃A,A=stdA:=⟨_,rfl⟩
 unfold aC fC dX at *
 with_reducible refine Bf hA hd hQ 200 ?hk ?_
 case hk=>trivial
 conv=>arg 9;cbv
 try simp only[OK]
 repeat' first|(with_reducible refine And.intro trivial ?_)|((with_reducible refine Be hA hd hQ 200 ?hk ?_);(case hk=>trivial);(conv=>arg 9;cbv);(try simp only[OK]))|((with_reducible refine cO ?hg ?_);(case hg=>with_reducible exact Bi F146_ok);refine tM (Us _) ?_;rintro _ _ ⟨rfl,rfl⟩)
 all_goals exact fI_ rfl ⟨_,rfl,rfl⟩
theorem Ln(N:Int)(M:Nat)(B:List EV)(hN:0<=N/\N<=4096)(hM:(M:Int)=8*N)(h:EH):Tri Tryz.prog gs 54 [.agg fC,.agg (dX N M B)] h fun v h'=>v = .tup [.iptr (aC N M B) 0,Cp]/\h'=h:=by
 have k1:=Yl N M B hN hM
 have k2:=T8
 have k3:=VK N M B
 have k4:=SF N M B
 generalize aC N M B=AC at *
 refine Tri.valA rfl rfl (Bk F54_ok fun I0 ρ0 w0 Q hρ hQ=>?_) h
 obtain⟨A,hA⟩:∃A,A=stdA:=⟨_,rfl⟩
 unfold Cp fC dX at *
 with_reducible refine Bf hA hd hQ 200 ?hk ?_
 case hk=>trivial
 conv=>arg 9;cbv
 try simp only[OK]
 repeat' first|(with_reducible refine And.intro trivial ?_)|((with_reducible refine⟨fun hbr=>?_,fun hbr=>?_⟩)<;>(try simp(disch:=omega)only[hA,Ba]at hbr)<;>(try (with_reducible exfalso;omega)))|((with_reducible refine Be hA hd hQ 200 ?hk ?_);(case hk=>trivial);(conv=>arg 9;cbv);(try simp only[OK]))|((with_reducible refine cO ?hg ?_);(case hg=>with_reducible exact Bi F91_ok);refine tM (k1 _) ?_;rintro _ _ ⟨rfl,rfl⟩)|((with_reducible refine cO ?hg ?_);(case hg=>with_reducible exact Bi F93_ok);refine tM (k2 _) ?_;rintro _ _ ⟨rfl,rfl⟩)|((with_reducible refine cO ?hg ?_);(case hg=>with_reducible exact Bi F94_ok);refine tM (k3 _) ?_;rintro _ _ ⟨rfl,rfl⟩)|((with_reducible refine cO ?hg ?_);(case hg=>with_reducible exact Bi F92_ok);refine tM (k4 _) ?_;rintro _ _ ⟨rfl,rfl⟩)
 all_goals exact fI_ rfl rfl
inductive Fld where
 |mk (nm:ByteArray) (nul:Bool) (kind width id idx:Int) (kids:List Fld)
mutual
def Yy:Fld->List EV
 | .mk nm nul k w i x kids=>[.lit (.string nm),.lit (.bool nul),.lit (.int .i64 k),.lit (.int .i64 w),.lit (.int .i64 i),.lit (.int .i64 x),.isl kids.length none (Ll kids)]
def Ll:List Fld->List EV
 |[]=>[]
 |f::l=>Yy f++Ll l
end
def BJ(n:Int):Prop:= -9223372036854775808<=n/\n<=9223372036854775807
mutual
def okF:Fld->Prop
 | .mk nm nul k w i x kids=>nm.size<=140737488351232/\BJ k/\BJ w/\BJ i/\BJ x/\kids.length<=140737488351232/\NU kids
def NU:List Fld->Prop
 |[]=>True
 |f::l=>okF f/\NU l
end
inductive Val where
 |mk (null:Bool) (num:Int) (text:ByteArray) (kids:List Val)
mutual
def Tl:Val->List EV
 | .mk b n t l=>[.lit (.bool b),.lit (.int .i64 n),.lit (.string t),.isl l.length none (N5 l)]
def N5:List Val->List EV
 |[]=>[]
 |v::l=>Tl v++N5 l
end
mutual
def okV:Val->Prop
 | .mk b n t l=>BJ n/\t.size<=140737488351232/\l.length<=140737488351232/\Rp l
def Rp:List Val->Prop
 |[]=>True
 |v::l=>okV v/\Rp l
end
def tys:List TypeId:=[27,25,23,43,40,114,112,163,68,5,3,2,9,4]
theorem Sz(n k:Int)(hk:0<k):n%256+256*(n/256%k)=n%(256*k):=by
 have h1:=Int.emod_add_mul_ediv n 256
 have h2:=Int.emod_add_mul_ediv (n/256) k
 have h3:=Int.emod_nonneg (n/256) (show k≠0 by omega)
 have h4:=Int.emod_lt_of_pos (n/256) hk
 generalize n/256%k=r2 at *
 generalize n/256/k=q2 at *
 have e:n=(n%256+256*r2)+(256*k)*q2:=by
  rw[Int.mul_assoc];omega
 have h5:0<=n%256+256*r2:=by omega
 have h6:n%256+256*r2<256*k:=by omega
 conv=>rhs;rw[e]
 rw[Int.add_mul_emod_self_left,Int.emod_eq_of_lt h5 h6]
theorem PC:∀(w:Nat) (n:Int),((leV (leB n w):Nat):Int)=n%256^w
 |0,n=>by simp[leB,leV]
 |w+1,n=>by
  have h:=PC w (n/256);show (((n%256).toNat+256*leV (leB (n/256) w):Nat):Int)=_;rw[Int.natCast_add,Int.natCast_mul,h,Int.toNat_of_nonneg (by omega),Int.pow_succ,Int.mul_comm (256^w) 256]
  exact Sz n _ (Int.pow_pos (by decide))
theorem Sa(n:Int):((leV (leB n 8):Nat):Int)=n%18446744073709551616:=PC 8 n
theorem Pu{n:Int}(h:BJ n):stdA.wr .i64 ((leV (leB n 8):Nat):Int)=n:=by
 rw[Sa]
 unfold BJ at h
 show IntKind.i64.wrap _=_
 simp only[IntKind.wrap,IntKind.signed,IntKind.bits]
 simp
 omega
theorem KD:∀(l:List Int) (i:Nat),i<l.length->((Bq l).drop (8*i)).take 8=leB (l.getD i 0) 8
 |[],i,h=>by simp at h
 |n::l,0,h=>by
  show ((leB n 8++Bq l).drop 0).take 8=_;rw[List.drop_zero,List.take_append_of_le_length (by rw[CP];omega),lT (by rw[CP];omega)];rfl
 |n::l,i+1,h=>by
  show ((leB n 8++Bq l).drop (8*(i+1))).take 8=_;rw[List.drop_append,CP,List.drop_of_length_le (by rw[CP];omega),lN,show 8*(i+1)-8=8*i by omega,KD l i (by simpa using h)]
  simp
theorem WR(a b:Int)(h1:0<=a*b)(h2:a*b<=18446744073709551615):stdA.ib .mul .u64 a b=a*b:=HP _ h1 h2
theorem WC(a b:Int)(h1:0<=a+b)(h2:a+b<=18446744073709551615):stdA.ib .add .u64 a b=a+b:=HP _ h1 h2
def vU(b:List Nat)(p n:Nat):Nat:=leV ((b.drop p).take n)
theorem ST(b:List Nat)(ha:AllB b)(p w:Nat):vU b p w<256^w:=by
 have h1:=K1 ((b.drop p).take w) fun x hx=>ha x (List.mem_of_mem_drop (List.mem_of_mem_take hx))
 have h2:((b.drop p).take w).length<=w:=by rw[lK];omega
 exact Nat.lt_of_lt_of_le h1 (Nat.pow_le_pow_right (by decide) h2)
theorem Ya(b:List Nat)(p:Nat)(hb:b.length<=65536)(ha:AllB b)(hpw:p+8<=b.length)(h:EH) :
  Tri Tryz.prog gs 229 [.isl b.length none (Bj b),.lit (.int .i64 p),.lit (.int .i64 8)] h fun v h'=>v = .lit (.int .i64 (stdA.wr .i64 (vU b p 8:Nat)))/\h'=h:=by
 refine Tri.valA rfl rfl ?_ h
 have hst:∀i,i<8->vU b (p+i) (8-1-i+1)=b.getD (p+i) 0+256*vU b (p+i+1) (8-1-i):=fun i (hi:i<8)=>VI b (p+i) (8-1-i) (by omega)
 have hlt:=fun i=>ST b ha (p+i+1) (8-1-i)
 obtain⟨M,hM⟩:∃n,n=b.length:=⟨_,rfl⟩
 obtain⟨d,hd'⟩:∃c,c=Bj b:=⟨_,rfl⟩
 obtain⟨p',hp'⟩:∃q:Int,q=p:=⟨_,rfl⟩
 rw[<-hM,<-hd',<-hp']
 refine Bk F229_ok fun I0 ρ0 w0 Q hρ hQ=>?_
 obtain⟨A,hA⟩:∃A,A=stdA:=⟨_,rfl⟩
 replace hst:=Hid.mk hst
 replace hlt:=Hid.mk hlt
 with_reducible refine Bf hA hd hQ 200 ?hk ?_
 case hk=>trivial
 conv=>arg 9;cbv
 try simp only[OK]
 repeat' first|(with_reducible refine OKK.loop ?_)|((with_reducible refine⟨fun hbr=>?_,fun hbr=>?_⟩)<;>(try simp(disch:=omega)only[hA,Ba]at hbr)<;>(try (with_reducible exfalso;omega)))|((with_reducible refine Be hA hd hQ 200 ?hk ?_);(case hk=>trivial);(conv=>arg 9;cbv);(try simp only[OK]))
 refine oK_ (msk 65 [0,1,2,7,8]) ?_
 refine oL_ (fun m st=>∃(i x:Int),st=⟨mkT 65 [(0,.isl M none d),(1,.lit (.int .i64 p')),(2,.lit (.int .i64 8)),(7,.lit (.int .u64 x)),(8,.lit (.int .i64 i))],[]⟩/\m=(i+1).toNat/\ -1<=i/\i<=7/\x=(vU b (p+(i+1).toNat) (8-(i+1).toNat):Nat))
  (fun m st hs' ih=>?_) ⟨A.ib .sub .i64 8 1,0,rfl,rfl,by simp(disch:=omega)only[hA,Ba]<;>omega,by simp(disch:=omega)only[hA,Ba]<;>omega,by rw[show A.ib .sub .i64 8 1=7 by simp(disch:=omega)only[hA,Ba]<;>omega];simp[vU,leV]⟩
 obtain⟨i,x,rfl,hm,hi1,hi2,hx⟩:=hs'
 obtain⟨c,hc⟩:∃x:Int,x=(b.getD (p+i.toNat) 0:Nat):=⟨_,rfl⟩
 have hL:0<=i->List.take 1 (List.drop (A.idx 0 (A.ib .add .i64 p' i) 1) d)=[.lit (.int .u8 c)]:=fun h=>by
  obtain⟨y,y1,y2⟩:=Ro hd' (p+i.toNat) (by omega)
  rw[show A.ib .add .i64 p' i=((p+i.toNat:Nat):Int) by simp(disch:=omega)only[hA,Ba]<;>omega,hA,B0,Nat.zero_add,Nat.mul_one,Int.toNat_natCast,y1,y2,hc]
 have hstep:Hid (0<=i->A.ib .add .u64 (A.ib .mul .u64 x 256) (A.wr .u64 c)=(vU b (p+i.toNat) (8-i.toNat):Nat)):=Hid.mk fun h0=>by
  have e1:=hst.out i.toNat (by omega)
  have e2:=hlt.out i.toNat;have e3:=ha.get (p+i.toNat);rw[show 8-1-i.toNat+1=8-i.toNat by omega,show p+i.toNat+1=p+(i+1).toNat by omega,show 8-1-i.toNat=8-(i+1).toNat by omega]at e1
  rw[show p+i.toNat+1=p+(i+1).toNat by omega,show 8-1-i.toNat=8-(i+1).toNat by omega]at e2
  rw[e1,hA,hx,hc];have e4:vU b (p+(i+1).toNat) (8-(i+1).toNat)<256^7:=Nat.lt_of_lt_of_le e2 (Nat.pow_le_pow_right (by decide) (by omega))
  generalize vU b (p+(i+1).toNat) (8-(i+1).toNat)=X,b.getD (p+i.toNat) 0=Y at *;rw[show (256:Nat)^7=72057594037927936 by decide]at e4
  rw[HP _ (by omega) (by omega),WR _ _ (by omega) (by omega),WC _ _ (by omega) (by omega)]
  push_cast;omega
 with_reducible refine Bf hA hd hQ 200 ?hk ?_
 case hk=>trivial
 conv=>arg 9;cbv
 try simp only[OK]
 repeat' first|(with_reducible refine OKK.loop ?_)|(with_reducible refine OKK.again ?_)|((with_reducible refine⟨fun hbr=>?_,fun hbr=>?_⟩)<;>(try simp(disch:=omega)only[hA,Ba]at hbr)<;>(try (with_reducible exfalso;omega)))|((with_reducible refine Be hA hd hQ 200 ?hk ?_);(case hk=>trivial);(conv=>arg 9;cbv);(try simp only[OK]))|((with_reducible refine Bn ?hn ?_);(case hn=>((simp(disch:=omega)only[hA,Ba])<;>omega)))|((refine⟨_,_,?l1,(hL (by omega)),rfl,?_⟩);(case l1=>exact rfl))
 ·refine oK_ (msk 65 [0,1,2,7,8]) (OKs.mv [] [] (by rw[hρ];rfl) ⟨by simp,by simp[Bd],by simp⟩ (ih _ _ ⟨A.ib .sub .i64 i 1,_,rfl,rfl,by simp(disch:=omega)only[hA,Ba]<;>omega,by simp(disch:=omega)only[hA,Ba]<;>omega,?_⟩ (by simp(disch:=omega)only[hA,Ba]<;>omega)))
  show A.ib .add .u64 (A.ib .mul .u64 x 256) (A.wr .u64 c)=_;rw[show (A.ib .sub .i64 i 1+1).toNat=i.toNat by simp(disch:=omega)only[hA,Ba]<;>omega]
  exact hstep.out (by omega)
 ·have hx2:x=(vU b p 8:Nat):=by rw[hx,show (i+1).toNat=0 by omega];rfl
  clear hx hstep hst hlt hL;refine oK_ (msk 65 [2,7,9,10]) ?_
  refine oL_ (fun m st=>∃(k H:Int),st=⟨mkT 65 [(2,.lit (.int .i64 8)),(7,.lit (.int .u64 x)),(9,.lit (.int .u64 H)),(10,.lit (.int .i64 k))],[]⟩/\m=(63-k).toNat/\0<=k/\k<=63)
   (fun m st hs' ih=>?_) ⟨0,1,rfl,rfl,by omega,by omega⟩
  obtain⟨k,H,rfl,hm,hk1,hk2⟩:=hs'
  with_reducible refine Bf hA hd hQ 200 ?hk ?_
  case hk=>trivial
  conv=>arg 9;cbv
  try simp only[OK]
  repeat' first|(with_reducible refine OKK.again ?_)|((with_reducible refine⟨fun hbr=>?_,fun hbr=>?_⟩)<;>(try simp(disch:=omega)only[hA,Ba]at hbr)<;>(try (with_reducible exfalso;omega)))|((with_reducible refine Be hA hd hQ 200 ?hk ?_);(case hk=>trivial);(conv=>arg 9;cbv);(try simp only[OK]))
  ·refine oK_ (msk 65 [2,7,9,10]) (OKs.mv [] [] (by rw[hρ];rfl) ⟨by simp,by simp[Bd],by simp⟩ (ih _ _ ⟨A.ib .add .i64 k 1,_,rfl,rfl,by simp(disch:=omega)only[hA,Ba]<;>omega,by simp(disch:=omega)only[hA,Ba]<;>omega⟩ (by simp(disch:=omega)only[hA,Ba]<;>omega)))
  all_goals (refine fI_ rfl (congrArg (fun q=>EV.lit (.int .i64 q)) ?_);rw[<-hx2,hA])
theorem TU(ns:List Int)(hn:ns.length<=4096)(hr:∀n∈ns,BJ n)(r:Int)(h0:0<=r)(h1:r<ns.length)(M:Nat)(B:List EV)(hM:M=8*ns.length)(hB:B=Bj (Bq ns))(h:EH) :
  Tri Tryz.prog gs 164 [.lit (.int .i64 11),.isl M none B,.lit (.int .i64 r)] h fun v h'=>v = .lit (.int .i64 (ns.getD r.toNat 0))/\h'=h:=by
 have k1:=fun h=>Ya (Bq ns) (8*r.toNat) (by rw[C3];omega) (IF ns) (by rw[C3];omega) h
 have e1:stdA.wr .i64 (vU (Bq ns) (8*r.toNat) 8:Nat)=ns.getD r.toNat 0:=by
  unfold vU;rw[KD ns _ (by omega)]
  refine Pu (hr _ ?_);rw[lG,lE (by omega)]
  exact List.getElem_mem _
 have e2:((8*r.toNat:Nat):Int)=stdA.ib .mul .i64 r 8:=by
  obtain⟨A,hA⟩:∃A,A=stdA:=⟨_,rfl⟩;rw[<-hA];simp(disch:=omega)only[hA,Ba]<;>omega
 rw[C3,<-hM,<-hB,e1,e2]at k1
 generalize ns.getD r.toNat 0=y at *
 clear e1 hB
 have kw:∀h,Tri Tryz.prog gs 232 [.lit (.int .i64 11)] h fun v h'=>v = .lit (.int .i64 8)/\h'=h:=fun h=>closedA (by kernel_rfl) rfl rfl h
 refine Tri.valA rfl rfl (Bk F164_ok fun I0 ρ0 w0 Q hρ hQ=>?_) h
 obtain⟨A,hA⟩:∃A,A=stdA:=⟨_,rfl⟩
 rw[<-hA]at k1
 with_reducible refine Bf hA hd hQ 200 ?hk ?_
 case hk=>trivial
 conv=>arg 9;cbv
 try simp only[OK]
 repeat' first|((with_reducible refine⟨fun hbr=>?_,fun hbr=>?_⟩)<;>(try simp(disch:=omega)only[hA,Ba]at hbr)<;>(try (with_reducible exfalso;omega)))|((with_reducible refine Be hA hd hQ 200 ?hk ?_);(case hk=>trivial);(conv=>arg 9;cbv);(try simp only[OK]))|((with_reducible refine cO ?hg ?_);(case hg=>with_reducible exact Bi F232_ok);refine tM (kw _) ?_;rintro _ _ ⟨rfl,rfl⟩)|((with_reducible refine cO ?hg ?_);(case hg=>with_reducible exact Bi F229_ok);refine tM (k1 _) ?_;rintro _ _ ⟨rfl,rfl⟩)
 all_goals exact fI_ rfl rfl
theorem JR(n:Int):clL (nC n)=true:=rfl
theorem RN(N r y L:Int)(M:Nat)(B:List EV)(hL:16<=L/\L<=4194304)(hp:∀h:EH,Tri Tryz.prog gs 164 [.lit (.int .i64 11),.isl M none B,.lit (.int .i64 r)] h fun v h'=>v = .lit (.int .i64 y)/\h'=h) :
  Tri Tryz.prog gs 114 [.ptr 0 0,.agg fC,.agg (dX N M B),.lit (.int .i64 r)] [.blk [.lit (.int .i64 L)]] fun v h'=>∃c',(v = .tup [.agg (nC y),.lit (.bool true)]/\c'=[.lit (.int .i64 (L-16))])/\h'=[.blk c']:=by
 have k1:=Il N r M B
 refine Tri.mv (R:=fun v h'=>v = .tup [.agg (nC y),.lit (.bool true)]/\0<Bd h'/\Bh h' 0 = .blk [.lit (.int .i64 (L-16))]) (Bk F114_ok fun I0 ρ0 w0 Q hρ hQ=>?_) fun v h' ⟨hv,hs,hg⟩=>⟨[0],[],rfl,⟨by simp,by simpa using hs,by simp⟩,_,⟨by subst hv;rfl,rfl⟩,by simp[mvH,hg,mvO,inL,mvL,mvE]⟩
 obtain⟨A,hA⟩:∃A,A=stdA:=⟨_,rfl⟩
 unfold fC dX nC at *
 with_reducible refine Bf hA hd hQ 200 ?hk ?_
 case hk=>trivial
 conv=>arg 9;cbv
 try simp only[OK]
 repeat' first|((with_reducible refine⟨fun hbr=>?_,fun hbr=>?_⟩)<;>(try simp(disch:=omega)only[hA,Ba]at hbr)<;>(try (with_reducible exfalso;omega)))|((with_reducible refine Be hA hd hQ 200 ?hk ?_);(case hk=>trivial);(conv=>arg 9;cbv);(try simp only[OK]))|((with_reducible refine Bn ?hn ?_);(case hn=>((simp(disch:=omega)only[hA,Ba])<;>omega)))|((refine⟨_,_,?l1,C5 hA _ _,rfl,?_⟩);(case l1=>exact rfl))|((with_reducible refine cO ?hg ?_);(case hg=>with_reducible exact Bi F159_ok);refine tM (k1 _) ?_;rintro _ _ ⟨rfl,rfl⟩)|((with_reducible refine cO ?hg ?_);(case hg=>with_reducible exact Bi F164_ok);refine tM (hp _) ?_;rintro _ _ ⟨rfl,rfl⟩)
 refine fI_ rfl ⟨rfl,Nat.succ_pos _,?_⟩
 exact congrArg (fun q=>EO.blk [.lit (.int .i64 q)]) (show A.ib .sub .i64 L 16=L-16 by simp(disch:=omega)only[hA,Ba]<;>omega)
theorem VB(N r y:Int)(M:Nat)(B:List EV)(hr:0<=r/\r<=4096)(hp:∀h:EH,Tri Tryz.prog gs 164 [.lit (.int .i64 11),.isl M none B,.lit (.int .i64 r)] h fun v h'=>v = .lit (.int .i64 y)/\h'=h)(h:EH) :
  Tri Tryz.prog gs 113 [.agg fC,.agg (dX N M B),.lit (.int .i64 r)] h fun v h'=>v = .tup [.agg (nC y),.lit (.bool true)]/\h'=h:=by
 have k1:=fun(id:Nat) (h:EH) (hg:Bh h id = .blk [.lit (.int .i64 4194304)])=>Tri.stepA (pre:=[]) (post:=[.agg fC,.agg (dX N M B),.lit (.int .i64 r)]) (fun V c' ⟨h1,h2⟩=>by subst h1;subst h2;exact⟨rfl,rfl⟩) (RN N r y 4194304 M B (by omega) hp) rfl rfl rfl hg
 simp only[lN]at k1
 refine Tri.valA rfl rfl (Bk F113_ok fun I0 ρ0 w0 Q hρ hQ=>?_) h
 obtain⟨A,hA⟩:∃A,A=stdA:=⟨_,rfl⟩
 have e1:A.ib .add .i64 0 r=r:=by simp(disch:=omega)only[hA,Ba]<;>omega
 rw[<-e1]at k1
 unfold fC dX nC at *
 with_reducible refine Bf hA hd hQ 200 ?hk ?_
 case hk=>trivial
 conv=>arg 9;cbv
 try simp only[OK]
 repeat' first|((with_reducible refine Be hA hd hQ 200 ?hk ?_);(case hk=>trivial);(conv=>arg 9;cbv);(try simp only[OK]))|((with_reducible refine cO ?hg ?_);(case hg=>with_reducible exact Bi F114_ok);(refine tM (k1 _ _ rfl) fun v hh hx=>?_);(obtain⟨c',⟨hv,hc'⟩,hh'⟩:=hx;subst hv;subst hc';subst hh'))
 all_goals exact fI_ rfl rfl
theorem Kb:∀(l m:List Int),Bu (l++m)=Bu l++Bu m
 |[],m=>rfl
 |n::l,m=>by simp only[lC,Bu,Kb l m,lA]
theorem HQ(l:List Int)(i:Nat)(h:i<l.length):Bu (l.take (i+1))=Bu (l.take i)++nC (l.getD i 0):=by
 rw[List.take_add_one,lE h,Kb]
 simp[Bu,lG,lE h]
theorem CO:∀l:List Int,clL (Bu l)=true
 |[]=>rfl
 |n::l=>by show clL (nC n++Bu l)=true;exact CU (JR n) (CO l)
theorem Wn(ns:List Int)(hn:ns.length<=4096)(hr:∀n∈ns,BJ n)(N:Int)(hN:N=ns.length)(M:Nat)(B:List EV)(hM:M=8*ns.length)(hB:B=Bj (Bq ns)) :
  Tri Tryz.prog gs 67 [.agg (fC++dX N M B++[.lit (.int .i64 0),.lit (.int .i64 N)])] [] fun v h'=>∃(i es:Nat) (c:Option Nat),v = .sl es i 0 ns.length c/\Bh h' i = .blk (Bu ns):=by
 have kp:=fun r h0 h1 h=>TU ns hn hr r h0 h1 M B hM hB h
 have kR:=fun(r:Int) (h0:0<=r) (h1:r<ns.length)=>VB N r (ns.getD r.toNat 0) M B ⟨h0,by omega⟩ (kp r h0 h1)
 have kr:=fun(r:Int) (h0:0<=r) (h1:r<ns.length) (L:Int) (hL:16<=L/\L<=4194304) (id:Nat) (h:EH) (hg:Bh h id = .blk [.lit (.int .i64 L)])=>Tri.stepA (pre:=[]) (post:=[.agg fC,.agg (dX N M B),.lit (.int .i64 r)]) (fun V c' ⟨h1,h2⟩=>by subst h1;subst h2;exact⟨rfl,rfl⟩) (RN N r (ns.getD r.toNat 0) L M B hL (kp r h0 h1)) rfl rfl rfl hg
 have hmore:=fun i h=>HQ ns i h
 rw[<-hN]at kR kr
 simp only[lN]at kr
 replace kR:=Hid.mk kR
 replace kr:=Hid.mk kr
 replace hmore:=Hid.mk hmore
 clear kp
 refine Bk F67_ok fun I0 ρ0 w0 Q hρ hQ=>?_
 obtain⟨A,hA⟩:∃A,A=stdA:=⟨_,rfl⟩
 with_reducible refine Bf hA hd hQ 200 ?hk ?_
 case hk=>trivial
 conv=>arg 9;cbv
 try simp only[OK]
 repeat' first|(with_reducible refine OKK.loop ?_)
 refine oK_ (msk 57 [1,3,4,5]) (OKs.mv [0,1,2] [] (by rw[hρ];rfl) ⟨by decide,by simp[Bd],by simp⟩ ?_)
 refine oL_ (fun m st=>∃(z L:Int) (Z:Nat) (c:List EV) (y:EV),m=(N-z).toNat/\0<=z/\z<=N/\L=4194304-16*z/\Z=z.toNat/\c=Bu (ns.take Z)/\((z=0/\y = .sl 4 1 0 0 (some 0))\/(1<=z/\y = .sl 4 1 0 Z none))/\
   st=⟨mkT 57 [(1,.ptr 0 0),(3,y),(4,.ptr 2 0),(5,.lit (.int .i64 z))],[.blk (fC++dX N M B++[.lit (.int .i64 0),.lit (.int .i64 N)]),.blk c,.blk [.lit (.int .i64 L)]]⟩)
  (fun m st hs' ih=>?_) ⟨0,4194304,0,_,_,rfl,by omega,by omega,rfl,rfl,rfl,.inl ⟨rfl,rfl⟩,rfl⟩
 obtain⟨z,L,Z,c,y,hm,hz0,hz1,hL,hZ,hc,hy,rfl⟩:=hs'
 have hcl:c.length=Z*4:=by rw[hc,Dw,lK];omega
 have e1:A.ib .add .i64 0 z=z:=by simp(disch:=omega)only[hA,Ba]<;>omega
 have e2:A.ib .add .i64 (A.ib .add .i64 0 0) z=z:=by simp(disch:=omega)only[hA,Ba]<;>omega
 by_cases hzN:z<N
 ·have kR:=kR.out z hz0 hzN
  have kr:=kr.out z hz0 hzN L (by omega)
  obtain⟨w,hw⟩:∃w,w=ns.getD z.toNat 0:=⟨_,rfl⟩;have hmr:Hid (Bu (ns.take (z.toNat+1))=c++nC w):=Hid.mk (by rw[hc,hw,hZ];exact hmore.out _ (by omega))
  have hnw:clL (nC w)=true:=rfl;obtain⟨L',hL'⟩:∃L',L'=L-16:=⟨_,rfl⟩;rw[<-hw]at kR kr;rw[<-hL']at kr;rw(config:={ occs:=.pos [1] }) [<-e1]at kR;rw(config:={ occs:=.pos [1] }) [<-e2]at kr;unfold fC dX nC at *;rcases hy with ⟨hz2,rfl⟩|⟨hz2,rfl⟩
  all_goals
   with_reducible refine Bf hA hd hQ 200 ?hk ?_
   case hk=>trivial
   conv=>arg 9;cbv
   try simp only[OK]
   repeat' first|(with_reducible refine OKK.again ?_)|((with_reducible refine⟨fun hbr=>?_,fun hbr=>?_⟩)<;>(try simp(disch:=omega)only[hA,Ba]at hbr)<;>(try (with_reducible exfalso;omega)))|((with_reducible refine Be hA hd hQ 200 ?hk ?_);(case hk=>trivial);(conv=>arg 9;cbv);(try simp only[OK]))|((with_reducible refine Bn ?hn ?_);(case hn=>((simp(disch:=omega)only[hA,Ba])<;>omega)))|((with_reducible refine cO ?hg ?_);(case hg=>with_reducible exact Bi F113_ok);refine tM (kR _) ?_;rintro _ _ ⟨rfl,rfl⟩)|((with_reducible refine cO ?hg ?_);(case hg=>with_reducible exact Bi F114_ok);(refine tM (kr _ _ rfl) fun v hh hx=>?_);(obtain⟨c',⟨hv,hc'⟩,hh'⟩:=hx;subst hv;subst hc';subst hh'))
   refine oK_ (msk 57 [1,3,4,5]) (OKs.mv [0,5,2] [] (by rw[hρ];rfl) ⟨by decide,by simp[Bd],by simp⟩ (ih _ _ ⟨A.ib .add .i64 z 1,L',_,_,_,rfl,by simp(disch:=omega)only[hA,Ba]<;>omega,by simp(disch:=omega)only[hA,Ba]<;>omega,?_,?_,?_,.inr ⟨by simp(disch:=omega)only[hA,Ba]<;>omega,rfl⟩,rfl⟩ (by simp(disch:=omega)only[hA,Ba]<;>omega)))
   ·simp(disch:=omega)only[hA,Ba]<;>omega
   ·simp(disch:=omega)only[hA,Ba]<;>omega
   ·refine(DN hA (by omega) rfl (by rw[hc];exact CO _) hnw _ _).trans ?_
    rw[<-hmr.out];exact congrArg (fun q=>Bu (ns.take q)) (by simp(disch:=omega)only[hA,Ba]<;>omega)
 ·unfold fC dX at *
  rcases hy with ⟨hz2,rfl⟩|⟨hz2,rfl⟩
  all_goals
   with_reducible refine Bf hA hd hQ 200 ?hk ?_
   case hk=>trivial
   conv=>arg 9;cbv
   try simp only[OK]
   repeat' first|((with_reducible refine⟨fun hbr=>?_,fun hbr=>?_⟩)<;>(try simp(disch:=omega)only[hA,Ba]at hbr)<;>(try (with_reducible exfalso;omega)))|((with_reducible refine Be hA hd hQ 200 ?hk ?_);(case hk=>trivial);(conv=>arg 9;cbv);(try simp only[OK]))
   refine fI_ rfl ⟨1,4,_,congrArg (fun q=>EV.sl 4 1 0 q _) (show _=ns.length by omega),?_⟩
   show EO.blk c=_;rw[hc,lT (by omega)]
theorem Tt(ns:List Int)(hn:ns.length<=4096)(hr:∀n∈ns,BJ n)(N:Int)(hN:N=ns.length)(M:Nat)(B:List EV)(hM:M=8*ns.length)(hB:B=Bj (Bq ns))(h:EH) :
  Tri Tryz.prog gs 67 [.agg (fC++dX N M B++[.lit (.int .i64 0),.lit (.int .i64 N)])] h fun v h'=>v = .isl ns.length none (Bu ns)/\h'=h:=
 Tri.fz1 (CO _) rfl (Wn ns hn hr N hN M B hM hB) h
theorem Ns(ns:List Int)(hn:ns.length<=4096)(hr:∀n∈ns,BJ n)(N:Int)(hN:N=ns.length)(M:Nat)(B:List EV)(hM:M=8*ns.length)(hB:B=Bj (Bq ns))(h:EH) :
  Tri Tryz.prog gs 18 [.agg fC,.agg (dX N M B)] h fun v h'=>v = .isl ns.length none (Bu ns)/\h'=h:=by
 have k1:=Tt ns hn hr N hN M B hM hB
 have hcl:=CO ns
 generalize ns.length=len,Bu ns=C at *
 refine Tri.valA rfl rfl (Bk F18_ok fun I0 ρ0 w0 Q hρ hQ=>?_) h
 obtain⟨A,hA⟩:∃A,A=stdA:=⟨_,rfl⟩
 unfold fC dX at *
 with_reducible refine Bf hA hd hQ 200 ?hk ?_
 case hk=>trivial
 conv=>arg 9;cbv
 try simp only[OK]
 have hQ1:=hQ
 refine cO (Bi F66_ok) (Bk F66_ok fun I0 ρ0 w0 Q hρ2 hQ=>?_)
 with_reducible refine Bf hA hd hQ 200 ?hk ?_
 case hk=>trivial
 conv=>arg 9;cbv
 try simp only[OK]
 refine fI_ rfl ?_
 replace hQ:=hQ1
 with_reducible refine Be hA hd hQ 1 ?hk ?_
 case hk=>trivial
 conv=>arg 9;cbv
 try simp only[OK]
 repeat' first|((with_reducible refine Be hA hd hQ 200 ?hk ?_);(case hk=>trivial);(conv=>arg 9;cbv);(try simp only[OK]))|((with_reducible refine cO ?hg ?_);(case hg=>with_reducible exact Bi F67_ok);refine tM (k1 _) ?_;rintro _ _ ⟨rfl,rfl⟩)
 exact fI_ rfl rfl
def bs(s:ByteArray)(i:Nat):Int:=stdA.bat s i
structure Pl where
 path:List Nat
 ahead:List Fld
 f:Fld
 inD:Bool
mutual
def Tp(path:List Nat)(ahead:List Fld)(inD:Bool):Fld->List Pl
 | .mk a b k w i x kids=>⟨path++[ahead.length],ahead,.mk a b k w i x kids,inD⟩::(if path.length<64 then Rg (path++[ahead.length]) [] (inD||decide (k=19)) kids else [])
def Rg(path:List Nat)(ahead:List Fld)(inD:Bool):List Fld->List Pl
 |[]=>[]
 |f::l=>Tp path ahead inD f++Rg path (ahead++[f]) inD l
end
theorem Up.agg3'{a b c a':EV}(h:Up a a'):Up (.agg [a,b,c]) (.agg [a',b,c]):=fun w I ρ cv hr=>by
 cases hr with
 |agg _ cc vs hl hc=>
  refine .agg _ _ _ (by simpa using hl) fun j x v he hv=>?_
  match j,he with
  |0,he=>simp at he;subst he;exact h _ _ _ _ (hc 0 _ v rfl hv)
  |1,he=>simp at he;subst he;exact hc 1 _ v rfl hv
  |2,he=>simp at he;subst he;exact hc 2 _ v rfl hv
def vw(b:List Nat):EV:=.agg [isB b,.lit (.int .i64 0),.lit (.pointer none)]
theorem Vs(b:List Nat)(h:EH):Tri Tryz.prog gs 326 [isB b] h fun v h'=>v=vw b/\h'=h:=by
 refine Tri.valA rfl rfl (Tri.up (R:=fun v _=>Up v (vw b)) ?_ fun v h' hu=>⟨_,rfl,hu⟩) h
 unfold vw isB
 obtain⟨n,hn⟩:∃n,n=b.length:=⟨_,rfl⟩
 obtain⟨c,hc⟩:∃c,c=Bj b:=⟨_,rfl⟩
 rw[<-hn,<-hc]
 refine Bk F326_ok fun I0 ρ0 w0 Q hρ hQ=>?_
 obtain⟨A,hA⟩:∃A,A=stdA:=⟨_,rfl⟩
 with_reducible refine Bf hA hd hQ 200 ?hk ?_
 case hk=>trivial
 conv=>arg 9;cbv
 try simp only[OK]
 repeat' first|((with_reducible refine⟨fun hbr=>?_,fun hbr=>?_⟩)<;>(try simp(disch:=omega)only[hA,Ba]at hbr)<;>(try (with_reducible exfalso;omega)))|((with_reducible refine Be hA hd hQ 200 ?hk ?_);(case hk=>trivial);(conv=>arg 9;cbv);(try simp only[OK]))|((with_reducible refine Bn ?hn ?_);(case hn=>((simp(disch:=omega)only[hA,Ba])<;>omega)))
 ·exact fI_ rfl (Up.agg3' (by rw[hbr];exact Up.refl _))
 ·refine fI_ rfl (Up.agg3' ?_)
  rw[hA];exact Up.cap n _ c
theorem Ti(b:List Nat)(h:EH):Tri Tryz.prog gs 327 [vw b,.lit (.pointer none)] h fun v h'=>v=vw b/\h'=h:=by
 unfold vw isB
 generalize b.length=n,Bj b=c
 refine Tri.valA rfl rfl (Bk F327_ok fun I0 ρ0 w0 Q hρ hQ=>?_) h
 obtain⟨A,hA⟩:∃A,A=stdA:=⟨_,rfl⟩
 with_reducible refine Bf hA hd hQ 200 ?hk ?_
 case hk=>trivial
 conv=>arg 9;cbv
 try simp only[OK]
 exact fI_ rfl rfl
theorem S0(b:List Nat)(p k:Int)(hb:b.length<=65536)(hp:BJ p)(hk:BJ k)(h:EH):Tri Tryz.prog gs 328 [vw b,.lit (.int .i64 p),.lit (.int .i64 k)] h fun v h'=>IsP (0<=p/\0<=k/\p+k<=b.length) v/\h'=h:=by
 unfold vw isB
 unfold BJ at hp hk
 generalize b.length=n,Bj b=c at *
 refine Tri.boolC rfl (Bk F328_ok fun I0 ρ0 w0 Q hρ hQ=>?_) h
 obtain⟨A,hA⟩:∃A,A=stdA:=⟨_,rfl⟩
 with_reducible refine Bf hA hd hQ 200 ?hk ?_
 case hk=>trivial
 conv=>arg 9;cbv
 try simp only[OK]
 repeat' first|((with_reducible refine⟨fun hbr=>?_,fun hbr=>?_⟩)<;>(try simp(disch:=omega)only[hA,Ba]at hbr)<;>(try (with_reducible exfalso;omega)))|((with_reducible refine Be hA hd hQ 200 ?hk ?_);(case hk=>trivial);(conv=>arg 9;cbv);(try simp only[OK]))
 all_goals (try (with_reducible refine FinR.self ?_;first|refine FinR.bl rfl ?_|refine FinR.bs rfl ?_|refine FinR.blh rfl ?_ rfl|refine FinR.bsh rfl ?_ rfl))
 all_goals (try simp(disch:=omega)only[hA,Ba,bF,false_iff])
 all_goals omega
theorem Tf(b:List Nat)(p k:Nat)(hb:b.length<=65536)(hpk:p+k<=b.length)(h:EH) :
  Tri Tryz.prog gs 329 [vw b,.lit (.int .i64 p),.lit (.int .i64 k)] h fun v h'=>v=isB ((b.drop p).take k)/\h'=h:=by
 refine Tri.valA rfl rfl (Tri.up (R:=fun v _=>Up v (isB ((b.drop p).take k))) ?_ fun v h' hu=>⟨_,rfl,hu⟩) h
 unfold vw isB
 obtain⟨n,hn⟩:∃n,n=b.length:=⟨_,rfl⟩
 obtain⟨c,hc⟩:∃c,c=Bj b:=⟨_,rfl⟩
 obtain⟨p',hp⟩:∃q:Int,q=p:=⟨_,rfl⟩
 obtain⟨k',hk⟩:∃q:Int,q=k:=⟨_,rfl⟩
 rw[<-hn,<-hc,<-hp,<-hk]
 refine Bk F329_ok fun I0 ρ0 w0 Q hρ hQ=>?_
 obtain⟨A,hA⟩:∃A,A=stdA:=⟨_,rfl⟩
 with_reducible refine Bf hA hd hQ 200 ?hk ?_
 case hk=>trivial
 conv=>arg 9;cbv
 try simp only[OK]
 repeat' first|((with_reducible refine⟨fun hbr=>?_,fun hbr=>?_⟩)<;>(try simp(disch:=omega)only[hA,Ba]at hbr)<;>(try (with_reducible exfalso;omega)))|((with_reducible refine Be hA hd hQ 200 ?hk ?_);(case hk=>trivial);(conv=>arg 9;cbv);(try simp only[OK]))|((with_reducible refine Bn ?hn ?_);(case hn=>((simp(disch:=omega)only[hA,Ba])<;>omega)))
 ·refine fI_ rfl ?_
  have hb0:b=[]:=List.length_eq_zero_iff.1 (by omega)
  subst hb0;rw[hc];simp only[List.drop_nil,List.take_nil];exact Up.refl _
 ·refine fI_ rfl ?_
  have e1:A.sub (A.tn (A.ib .add .i64 p' k')) (A.tn p')=((b.drop p).take k).length:=by
   rw[lK,lD];simp(disch:=omega)only[hA,Ba];omega
  have e2:A.drp (A.mul (A.tn p') 1) c=Bj (b.drop p):=by
   simp(disch:=omega)only[hA,Ba];rw[hc,Nq,hp,Int.toNat_natCast]
  refine Up.trans (b:=.isl ((b.drop p).take k).length none (Bj (b.drop p))) ?_ ?_
  ·rw[<-e1,<-e2]
   exact Up.cap _ _ _
  ·have:=Up.pre ((b.drop p).take k).length none (Bj (b.drop p)) k
   rw[ND]at this;exact this
theorem Ur(w:Int)(h:EH):Tri Tryz.prog gs 434 [.lit (.int .i64 w)] h fun v h'=>IsP (w=1\/w=2\/w=4\/w=8) v/\h'=h:=by
 refine Tri.boolC rfl (Bk F434_ok fun I0 ρ0 w0 Q hρ hQ=>?_) h
 obtain⟨A,hA⟩:∃A,A=stdA:=⟨_,rfl⟩
 with_reducible refine Bf hA hd hQ 200 ?hk ?_
 case hk=>trivial
 conv=>arg 9;cbv
 try simp only[OK]
 repeat' first|((with_reducible refine⟨fun hbr=>?_,fun hbr=>?_⟩)<;>(try simp(disch:=omega)only[hA,Ba]at hbr)<;>(try (with_reducible exfalso;omega)))|((with_reducible refine Be hA hd hQ 200 ?hk ?_);(case hk=>trivial);(conv=>arg 9;cbv);(try simp only[OK]))
 all_goals (try (with_reducible refine FinR.self ?_;first|refine FinR.bl rfl ?_|refine FinR.bs rfl ?_|refine FinR.blh rfl ?_ rfl|refine FinR.bsh rfl ?_ rfl))
 all_goals (try simp(disch:=omega)only[hA,Ba,true_iff,eq_self])
 all_goals omega
theorem Ve(b:List Nat)(hb:b.length<=8)(ha:AllB b)(h:EH):Tri Tryz.prog gs 435 [isB b] h fun v h'=>v = .lit (.int .u64 (leV b:Nat))/\h'=h:=by
 refine Tri.valA rfl rfl ?_ h
 unfold isB
 obtain⟨M,hM⟩:∃n,n=b.length:=⟨_,rfl⟩
 obtain⟨d,hd'⟩:∃c,c=Bj b:=⟨_,rfl⟩
 rw[<-hM,<-hd']
 refine Bk F435_ok fun I0 ρ0 w0 Q hρ hQ=>?_
 obtain⟨A,hA⟩:∃A,A=stdA:=⟨_,rfl⟩
 with_reducible refine Bf hA hd hQ 200 ?hk ?_
 case hk=>trivial
 conv=>arg 9;cbv
 try simp only[OK]
 repeat' first|(with_reducible refine OKK.loop ?_)
 refine oK_ (msk 22 [3,6,7,8]) ?_
 refine oL_ (fun m st=>∃(i a:Int),st=⟨mkT 22 [(3,.lit (.int .u64 a)),(6,.isl M none d),(7,.lit (.int .i64 (A.ofn M))),(8,.lit (.int .i64 i))],[]⟩/\m=(M-i).toNat/\0<=i/\i<=M/\a=(leV (b.take i.toNat):Nat))
  (fun m st hs' ih=>?_) ⟨0,0,rfl,rfl,by omega,by omega,rfl⟩
 obtain⟨i,a,rfl,hm,hi1,hi2,hav⟩:=hs'
 obtain⟨x,hx⟩:∃x:Int,x=(b.getD i.toNat 0:Nat):=⟨_,rfl⟩
 have hL:i<M->List.take 1 (List.drop (A.idx 0 i 1) d)=[.lit (.int .u8 x)]:=fun h=>by
  obtain⟨y,y1,y2⟩:=Ro hd' i.toNat (by omega)
  rw[hA,B0,Nat.zero_add,Nat.mul_one,y1,y2,hx]
 with_reducible refine Bf hA hd hQ 200 ?hk ?_
 case hk=>trivial
 conv=>arg 9;cbv
 try simp only[OK]
 repeat' first|(with_reducible refine OKK.again ?_)|((with_reducible refine⟨fun hbr=>?_,fun hbr=>?_⟩)<;>(try simp(disch:=omega)only[hA,Ba]at hbr)<;>(try (with_reducible exfalso;omega)))|((with_reducible refine Be hA hd hQ 200 ?hk ?_);(case hk=>trivial);(conv=>arg 9;cbv);(try simp only[OK]))|((with_reducible refine Bn ?hn ?_);(case hn=>((simp(disch:=omega)only[hA,Ba])<;>omega)))|((refine⟨_,_,?l1,(hL (by omega)),rfl,?_⟩);(case l1=>exact rfl))
 ·have hxl:b.getD i.toNat 0<256:=ha.get _
  have hal:leV (b.take i.toNat)<256^i.toNat:=by
   have:=K1 _ (ha.take i.toNat)
   rwa [lK,Nat.min_eq_left (by omega)]at this
  refine oK_ (msk 22 [3,6,7,8]) (OKs.mv [] [] (by rw[hρ];rfl) ⟨by simp,by simp[Bd],by simp⟩ (ih _ _ ⟨_,_,rfl,rfl,?_,?_,?_⟩ ?_))
  ·simp(disch:=omega)only[hA,Ba]<;>omega
  ·simp(disch:=omega)only[hA,Ba]<;>omega
  ·show A.ib .or .u64 a (A.sh .shl .u64 (A.wr .u64 x) (A.ib .mul .i64 8 i))=(leV (b.take (A.ib .add .i64 i 1).toNat):Nat)
   rw[show (A.ib .add .i64 i 1).toNat=i.toNat+1 by simp(disch:=omega)only[hA,Ba]<;>omega,Zt b _ (by omega),hav,hx,hA,show i=(i.toNat:Int) by omega]
   exact Va _ _ _ hal hxl (by omega)
  ·simp(disch:=omega)only[hA,Ba]<;>omega
 ·refine⟨_,rfl,?_⟩
  show EV.lit (.int .u64 a)=_;rw[hav,lT (by omega)]
theorem Tz(b:List Nat)(p w:Nat)(hb:b.length<=65536)(ha:AllB b)(hw:w=1\/w=2\/w=4\/w=8)(hpw:p+w<=b.length)(h:EH) :
  Tri Tryz.prog gs 433 [vw b,.lit (.int .i64 p),.lit (.int .i64 w)] h fun v h'=>v = .tup [.lit (.int .u64 (leV ((b.drop p).take w):Nat)),.lit (.int .i64 0)]/\h'=h:=by
 have h1:=Ur w
 have h2:=S0 b p w hb (by unfold BJ;omega) (by unfold BJ;omega)
 have h3:=Tf b p w hb hpw
 have h4:=Ve ((b.drop p).take w) (by rw[lK];omega) ((ha.drop p).take w)
 have c1:(w:Int)=1\/(w:Int)=2\/(w:Int)=4\/(w:Int)=8:=by omega
 have c2:0<=(p:Int)/\0<=(w:Int)/\(p:Int)+w<=b.length:=by omega
 generalize ((w:Int)=1\/(w:Int)=2\/(w:Int)=4\/(w:Int)=8)=P1 at h1 c1
 generalize (0<=(p:Int)/\0<=(w:Int)/\(p:Int)+w<=b.length)=P2 at h2 c2
 generalize leV ((b.drop p).take w)=x at h4 ⊢
 obtain⟨y,hy⟩:∃y:Int,y=(x:Int):=⟨_,rfl⟩
 rw[<-hy]at h4 ⊢
 obtain⟨m,d,hmd⟩:∃m d,isB ((b.drop p).take w) = .isl m none d:=⟨_,_,rfl⟩
 rw[hmd]at h3 h4
 clear hmd
 unfold vw isB at *
 generalize (p:Int)=p',(w:Int)=w',b.length=n,Bj b=c at *
 refine Tri.valA rfl rfl (Bk F433_ok fun I0 ρ0 w0 Q hρ hQ=>?_) h
 obtain⟨A,hA⟩:∃A,A=stdA:=⟨_,rfl⟩
 with_reducible refine Bf hA hd hQ 200 ?hk ?_
 case hk=>trivial
 conv=>arg 9;cbv
 try simp only[OK]
 repeat' first|((with_reducible refine⟨fun hbr=>?_,fun hbr=>?_⟩)<;>(try simp(disch:=omega)only[hA,Ba,reduceCtorEq]at hbr)<;>(try (with_reducible exfalso;omega)))|((with_reducible refine Be hA hd hQ 200 ?hk ?_);(case hk=>trivial);(conv=>arg 9;cbv);(try simp only[OK]))|((with_reducible refine cO ?hg ?_);(case hg=>with_reducible exact Bi F434_ok);(refine tM (h1 _) fun v hh hx=>?_);(obtain⟨⟨b,hv,hb⟩,he⟩:=hx;subst hv;subst he;cases b<;>simp(disch:=omega)only[bF,true_iff,false_iff,eq_self]at hb)<;>(try (with_reducible exfalso;omega)))|((with_reducible refine cO ?hg ?_);(case hg=>with_reducible exact Bi F328_ok);(refine tM (h2 _) fun v hh hx=>?_);(obtain⟨⟨b,hv,hb⟩,he⟩:=hx;subst hv;subst he;cases b<;>simp(disch:=omega)only[bF,true_iff,false_iff,eq_self]at hb)<;>(try (with_reducible exfalso;omega)))|((with_reducible refine cO ?hg ?_);(case hg=>with_reducible exact Bi F329_ok);refine tM (h3 _) ?_;rintro _ _ ⟨rfl,rfl⟩)|((with_reducible refine cO ?hg ?_);(case hg=>with_reducible exact Bi F435_ok);refine tM (h4 _) ?_;rintro _ _ ⟨rfl,rfl⟩)
 all_goals first
  |exact absurd c1 (by assumption)
  |exact absurd c2 (by assumption)
  |exact fI_ rfl rfl
  |trace_state
section
section
variable {A:Ar} (hA:A=stdA) (N:Int) (M:Nat) (B:List EV)
include hA
theorem Zh:List.take 1 (List.drop (A.add (A.add (A.add 0 0) 2) 0) (aC N M B))=[.lit (.int .i64 11)]:=by rw[hA];rfl
theorem Tu:List.take 5 (List.drop (A.add (A.add 0 0) 2) (aC N M B))=tC:=by rw[hA];rfl
theorem L6:List.take 1 (List.drop (A.add (A.add 0 7) 3) (aC N M B))=[.isl 2 none [.isl 0 none [],.isl M none B]]:=by rw[hA];rfl
theorem Vd:List.take 1 (List.drop (A.add 0 13) (aC N M B))=[.lit (.int .i64 0)]:=by rw[hA];rfl
theorem Zo:List.take 1 (List.drop (A.add 0 14) (aC N M B))=[.lit (.int .i64 N)]:=by rw[hA];rfl
theorem TO:List.take 1 (List.drop (A.add 0 15) (aC N M B))=[.lit (.pointer none)]:=by rw[hA];rfl
theorem Uw:List.take 1 (List.drop (A.add 0 16) (aC N M B))=[.iface 288 (.agg [])]:=by rw[hA];rfl
end
theorem Wa(N r:Int)(M:Nat)(B:List EV)(h:EH):Tri Tryz.prog gs 309 [.iptr (aC N M B) 0,.lit (.int .i64 r)] h fun v h'=>v = .lit (.bool false)/\h'=h:=by
 have l1:=fun A hA=>@Zh A hA N M B
 have l2:=fun A hA=>@L6 A hA N M B
 generalize aC N M B=AC at *
 refine Tri.valA rfl rfl (Bk F309_ok fun I0 ρ0 w0 Q hρ hQ=>?_) h
 obtain⟨A,hA⟩:∃A,A=stdA:=⟨_,rfl⟩
 replace l1:=l1 A hA
 replace l2:=l2 A hA
 with_reducible refine Bf hA hd hQ 200 ?hk ?_
 case hk=>trivial
 conv=>arg 9;cbv
 try simp only[OK]
 repeat' first|((with_reducible refine⟨fun hbr=>?_,fun hbr=>?_⟩)<;>(try simp(disch:=omega)only[hA,Ba,reduceCtorEq]at hbr)<;>(try (with_reducible exfalso;omega)))|((with_reducible refine Be hA hd hQ 200 ?hk ?_);(case hk=>trivial);(conv=>arg 9;cbv);(try simp only[OK]))|((with_reducible refine Bn ?hn ?_);(case hn=>((simp(disch:=omega)only[hA,Ba])<;>omega)))|((refine⟨_,_,?l1,l1,rfl,?_⟩);(case l1=>exact rfl))|((refine⟨_,_,?l1,l2,rfl,?_⟩);(case l1=>exact rfl))|((refine⟨_,_,?l1,(Ct hA _ _),rfl,?_⟩);(case l1=>exact rfl))|((with_reducible refine cO ?hg ?_);(case hg=>with_reducible exact Bi F306_ok);(refine tM (K6 _) fun v hh hx=>?_);(obtain⟨⟨b,hv,hb⟩,he⟩:=hx;subst hv;subst he;cases b<;>simp(disch:=omega)only[not_true_eq_false,bF,false_iff,eq_self]at hb)<;>(try (with_reducible exfalso;omega)))
 all_goals exact fI_ rfl rfl
theorem K8(b:List Nat)(N:Int)(h:EH):Tri Tryz.prog gs 318 [.iptr (aC N b.length (Bj b)) 0,.lit (.int .i64 1)] h fun v h'=>v=vw b/\h'=h:=by
 have l1:=fun A hA=>@L6 A hA N b.length (Bj b)
 have l2:=fun A hA=>@TO A hA N b.length (Bj b)
 have k1:=Vs b
 have k2:=Ti b
 unfold vw isB at *
 generalize aC N b.length (Bj b)=AC at *
 generalize b.length=n,Bj b=c at *
 refine Tri.valA rfl rfl (Bk F318_ok fun I0 ρ0 w0 Q hρ hQ=>?_) h
 obtain⟨A,hA⟩:∃A,A=stdA:=⟨_,rfl⟩
 replace l1:=l1 A hA
 replace l2:=l2 A hA
 with_reducible refine Bf hA hd hQ 200 ?hk ?_
 case hk=>trivial
 conv=>arg 9;cbv
 try simp only[OK]
 repeat' first|((with_reducible refine Be hA hd hQ 200 ?hk ?_);(case hk=>trivial);(conv=>arg 9;cbv);(try simp only[OK]))|((with_reducible refine Bn ?hn ?_);(case hn=>((simp(disch:=omega)only[hA,Ba])<;>omega)))|((refine⟨_,_,?l1,l1,rfl,?_⟩);(case l1=>exact rfl))|((refine⟨_,_,?l1,l2,rfl,?_⟩);(case l1=>exact rfl))|((refine⟨_,_,?l1,(C5 hA _ _),rfl,?_⟩);(case l1=>exact rfl))|((with_reducible refine cO ?hg ?_);(case hg=>with_reducible exact Bi F326_ok);refine tM (k1 _) ?_;rintro _ _ ⟨rfl,rfl⟩)|((with_reducible refine cO ?hg ?_);(case hg=>with_reducible exact Bi F327_ok);refine tM (k2 _) ?_;rintro _ _ ⟨rfl,rfl⟩)
 all_goals exact fI_ rfl rfl
theorem R4(h:EH):Tri Tryz.prog gs 308 [.lit (.int .i64 11)] h fun v h'=>v = .lit (.int .i64 8)/\h'=h:=closedA (by kernel_rfl) rfl rfl h
theorem TQ(ns:List Int)(hn:ns.length<=4096)(hr:∀n∈ns,BJ n)(r:Int)(h0:0<=r)(h1:r<ns.length)(N:Int)(h:EH) :
  Tri Tryz.prog gs 442 [.iptr (aC N (Bq ns).length (Bj (Bq ns))) 0,.lit (.int .i64 11),.lit (.int .i64 r)] h fun v h'=>v = .lit (.int .i64 (ns.getD r.toNat 0))/\h'=h:=by
 have k1:=K8 (Bq ns) N
 have k2:=Tz (Bq ns) (8*r.toNat) 8 (by rw[C3];omega) (IF ns) (by omega) (by rw[C3];omega)
 have e1:stdA.wr .i64 ((leV (((Bq ns).drop (8*r.toNat)).take 8):Nat):Int)=ns.getD r.toNat 0:=by
  rw[KD ns _ (by omega)]
  refine Pu (hr _ ?_);rw[lG,lE (by omega)]
  exact List.getElem_mem _
 obtain⟨A,hA⟩:∃A,A=stdA:=⟨_,rfl⟩
 have e2:((8*r.toNat:Nat):Int)=A.ib .mul .i64 r 8:=by simp(disch:=omega)only[hA,Ba]<;>omega
 have e3:((8:Nat):Int)=8:=rfl
 rw[e2,e3]at k2
 rw[<-hA]at e1
 generalize ns.getD r.toNat 0=y at *
 obtain⟨x,hx⟩:∃x:Int,x=((leV (((Bq ns).drop (8*r.toNat)).take 8):Nat):Int):=⟨_,rfl⟩
 rw[<-hx]at k2 e1
 generalize aC N (Bq ns).length (Bj (Bq ns))=AC at *
 clear hx hr
 unfold vw isB at *
 generalize (Bq ns).length=n,Bj (Bq ns)=c at *
 refine Tri.valA rfl rfl (Bk F442_ok fun I0 ρ0 w0 Q hρ hQ=>?_) h
 with_reducible refine Bf hA hd hQ 200 ?hk ?_
 case hk=>trivial
 conv=>arg 9;cbv
 try simp only[OK]
 repeat' first|((with_reducible refine⟨fun hbr=>?_,fun hbr=>?_⟩)<;>(try simp(disch:=omega)only[hA,Ba]at hbr)<;>(try (with_reducible exfalso;omega)))|((with_reducible refine Be hA hd hQ 200 ?hk ?_);(case hk=>trivial);(conv=>arg 9;cbv);(try simp only[OK]))|((with_reducible refine cO ?hg ?_);(case hg=>with_reducible exact Bi F308_ok);refine tM (R4 _) ?_;rintro _ _ ⟨rfl,rfl⟩)|((with_reducible refine cO ?hg ?_);(case hg=>with_reducible exact Bi F318_ok);refine tM (k1 _) ?_;rintro _ _ ⟨rfl,rfl⟩)|((with_reducible refine cO ?hg ?_);(case hg=>with_reducible exact Bi F433_ok);refine tM (k2 _) ?_;rintro _ _ ⟨rfl,rfl⟩)
 all_goals exact fI_ rfl (congrArg (fun q=>EV.lit (.int .i64 q)) e1)
theorem Za(L:Int)(h1:16<=L)(h2:L<=9223372036854775807) :
  Tri Tryz.prog gs 310 [.ptr 0 0,.lit (.int .i64 16)] [.blk [.lit (.int .i64 L)]] fun v h'=>∃c',(v = .tup []/\c'=[.lit (.int .i64 (L-16))])/\h'=[.blk c']:=by
 refine Bk F310_ok fun I0 ρ0 w0 Q hρ hQ=>?_
 obtain⟨A,hA⟩:∃A,A=stdA:=⟨_,rfl⟩
 have e:A.ib .sub .i64 L 16=L-16:=by simp(disch:=omega)only[hA,Ba]<;>omega
 with_reducible refine Bf hA hd hQ 200 ?hk ?_
 case hk=>trivial
 conv=>arg 9;cbv
 try simp only[OK]
 repeat' first|((with_reducible refine⟨fun hbr=>?_,fun hbr=>?_⟩)<;>(try simp(disch:=omega)only[hA,Ba]at hbr)<;>(try (with_reducible exfalso;omega)))|((with_reducible refine Be hA hd hQ 200 ?hk ?_);(case hk=>trivial);(conv=>arg 9;cbv);(try simp only[OK]))
 all_goals exact fI_ rfl ⟨_,⟨rfl,congrArg (fun x=>[EV.lit (.int .i64 x)]) e⟩,rfl⟩
def RdR(y L:Int)(v:EV)(c':List EV):Prop:=v = .agg (nC y)/\c'=[.lit (.int .i64 (L-16))]
theorem RdR.cl{y L:Int}{v:EV}{c':List EV}(h:RdR y L v c'):clE v=true/\clL c'=true:=by obtain⟨h1,h2⟩:=h;subst h1;subst h2;exact⟨rfl,rfl⟩
theorem U7(r y L:Int)(b:List Nat)(N:Int)(hL:16<=L/\L<=4194304)(hp:∀h:EH,Tri Tryz.prog gs 442 [.iptr (aC N b.length (Bj b)) 0,.lit (.int .i64 11),.lit (.int .i64 r)] h fun v h'=>v = .lit (.int .i64 y)/\h'=h) :
  Tri Tryz.prog gs 445 [.agg [],.iptr (aC N b.length (Bj b)) 0,.lit (.int .i64 r),.ptr 0 0] [.blk [.lit (.int .i64 L)]] fun v h'=>∃c',RdR y L v c'/\h'=[.blk c']:=by
 have l1:=fun A hA=>@Tu A hA N b.length (Bj b)
 have k1:=K8 b N
 have k2:=fun(id:Nat) (h:EH) (hg:Bh h id = .blk [.lit (.int .i64 L)])=>Tri.stepA (pre:=[]) (post:=[.lit (.int .i64 16)]) (fun V c' ⟨h1,h2⟩=>by subst h1;subst h2;exact⟨rfl,rfl⟩) (Za L (by omega) (by omega)) rfl rfl rfl hg
 simp only[lN]at k2
 unfold RdR
 obtain⟨L',hL'⟩:∃q,q=L-16:=⟨_,rfl⟩
 rw[<-hL']at k2 ⊢
 unfold vw isB at *
 generalize aC N b.length (Bj b)=AC at *
 generalize b.length=n,Bj b=c at *
 refine Tri.mv (R:=fun v h'=>v = .agg (nC y)/\0<Bd h'/\Bh h' 0 = .blk [.lit (.int .i64 L')]) (Bk F445_ok fun I0 ρ0 w0 Q hρ hQ=>?_) fun v h' ⟨hv,hs,hg⟩=>⟨[0],[],rfl,⟨by simp,by simpa using hs,by simp⟩,_,⟨by subst hv;rfl,rfl⟩,by simp[mvH,hg,mvO,inL,mvL,mvE]⟩
 obtain⟨A,hA⟩:∃A,A=stdA:=⟨_,rfl⟩
 replace l1:=l1 A hA
 unfold tC nC at *
 with_reducible refine Bf hA hd hQ 200 ?hk ?_
 case hk=>trivial
 conv=>arg 9;cbv
 try simp only[OK]
 repeat' first|((with_reducible refine⟨fun hbr=>?_,fun hbr=>?_⟩)<;>(try simp(disch:=omega)only[hA,Ba]at hbr)<;>(try (with_reducible exfalso;omega)))|((with_reducible refine Be hA hd hQ 200 ?hk ?_);(case hk=>trivial);(conv=>arg 9;cbv);(try simp only[OK]))|((refine⟨_,_,?l1,l1,rfl,?_⟩);(case l1=>exact rfl))|((with_reducible refine cO ?hg ?_);(case hg=>with_reducible exact Bi F318_ok);refine tM (k1 _) ?_;rintro _ _ ⟨rfl,rfl⟩)|((with_reducible refine cO ?hg ?_);(case hg=>with_reducible exact Bi F442_ok);refine tM (hp _) ?_;rintro _ _ ⟨rfl,rfl⟩)|((with_reducible refine cO ?hg ?_);(case hg=>with_reducible exact Bi F310_ok);(refine tM (k2 _ _ rfl) fun v hh hx=>?_);(obtain⟨c',⟨hv,hc'⟩,hh'⟩:=hx;subst hv;subst hc';subst hh'))
 all_goals exact fI_ rfl ⟨rfl,Nat.succ_pos _,rfl⟩
theorem Zl(r y L:Int)(b:List Nat)(N:Int)(hL:16<=L/\L<=4194304)(hp:∀h:EH,Tri Tryz.prog gs 442 [.iptr (aC N b.length (Bj b)) 0,.lit (.int .i64 11),.lit (.int .i64 r)] h fun v h'=>v = .lit (.int .i64 y)/\h'=h) :
  Tri Tryz.prog gs 283 [.iptr (aC N b.length (Bj b)) 0,.lit (.int .i64 r),.ptr 0 0] [.blk [.lit (.int .i64 L)]] fun v h'=>∃c',RdR y L v c'/\h'=[.blk c']:=by
 have l1:=fun A hA=>@Uw A hA N b.length (Bj b)
 have k1:=Wa N r b.length (Bj b)
 have k2:=fun(id:Nat) (h:EH) (hg:Bh h id = .blk [.lit (.int .i64 L)])=>Tri.stepA (pre:=[.agg [],.iptr (aC N b.length (Bj b)) 0,.lit (.int .i64 r)]) (post:=[]) (fun V c' h=>RdR.cl h) (U7 r y L b N hL hp) rfl rfl rfl hg
 simp only[lC,lN]at k2
 unfold RdR at *
 obtain⟨L',hL'⟩:∃q,q=L-16:=⟨_,rfl⟩
 rw[<-hL']at k2 ⊢
 generalize aC N b.length (Bj b)=AC at *
 refine Tri.mv (R:=fun v h'=>v = .agg (nC y)/\0<Bd h'/\Bh h' 0 = .blk [.lit (.int .i64 L')]) (Bk F283_ok fun I0 ρ0 w0 Q hρ hQ=>?_) fun v h' ⟨hv,hs,hg⟩=>⟨[0],[],rfl,⟨by simp,by simpa using hs,by simp⟩,_,⟨by subst hv;rfl,rfl⟩,by simp[mvH,hg,mvO,inL,mvL,mvE]⟩
 obtain⟨A,hA⟩:∃A,A=stdA:=⟨_,rfl⟩
 replace l1:=l1 A hA
 unfold nC at *
 with_reducible refine Bf hA hd hQ 200 ?hk ?_
 case hk=>trivial
 conv=>arg 9;cbv
 try simp only[OK]
 repeat' first|((with_reducible refine Be hA hd hQ 200 ?hk ?_);(case hk=>trivial);(conv=>arg 9;cbv);(try simp only[OK]))|((refine⟨_,_,?l1,l1,rfl,?_⟩);(case l1=>exact rfl))|((with_reducible refine cO ?hg ?_);(case hg=>with_reducible exact Bi F309_ok);refine tM (k1 _) ?_;rintro _ _ ⟨rfl,rfl⟩)|((with_reducible refine cO ?hg ?_);(case hg=>with_reducible exact Bi F445_ok);(refine tM (k2 _ _ rfl) fun v hh hx=>?_);(obtain⟨c',⟨hv,hc'⟩,hh'⟩:=hx;subst hv;subst hc';subst hh'))
 all_goals exact fI_ rfl ⟨rfl,Nat.succ_pos _,rfl⟩
theorem Yc(r y L:Int)(b:List Nat)(N:Int)(hr:0<=r/\r<=4096)(hL:16<=L/\L<=4194304)(hp:∀h:EH,Tri Tryz.prog gs 442 [.iptr (aC N b.length (Bj b)) 0,.lit (.int .i64 11),.lit (.int .i64 r)] h fun v h'=>v = .lit (.int .i64 y)/\h'=h) :
  Tri Tryz.prog gs 224 [.iptr (aC N b.length (Bj b)) 0,.lit (.int .i64 r),.ptr 0 0] [.blk [.lit (.int .i64 L)]] fun v h'=>∃c',RdR y L v c'/\h'=[.blk c']:=by
 have l1:=fun A hA=>@Vd A hA N b.length (Bj b)
 have k2:=fun(id:Nat) (h:EH) (hg:Bh h id = .blk [.lit (.int .i64 L)])=>Tri.stepA (pre:=[.iptr (aC N b.length (Bj b)) 0,.lit (.int .i64 r)]) (post:=[]) (fun V c' h=>RdR.cl h) (Zl r y L b N hL hp) rfl rfl rfl hg
 simp only[lC,lN]at k2
 unfold RdR at *
 obtain⟨L',hL'⟩:∃q,q=L-16:=⟨_,rfl⟩
 rw[<-hL']at k2 ⊢
 generalize aC N b.length (Bj b)=AC at *
 refine Tri.mv (R:=fun v h'=>v = .agg (nC y)/\0<Bd h'/\Bh h' 0 = .blk [.lit (.int .i64 L')]) (Bk F224_ok fun I0 ρ0 w0 Q hρ hQ=>?_) fun v h' ⟨hv,hs,hg⟩=>⟨[0],[],rfl,⟨by simp,by simpa using hs,by simp⟩,_,⟨by subst hv;rfl,rfl⟩,by simp[mvH,hg,mvO,inL,mvL,mvE]⟩
 obtain⟨A,hA⟩:∃A,A=stdA:=⟨_,rfl⟩
 replace l1:=l1 A hA
 have e1:r=A.ib .add .i64 0 r:=by simp(disch:=omega)only[hA,Ba]<;>omega
 rw[e1]at k2
 unfold nC at *
 with_reducible refine Bf hA hd hQ 200 ?hk ?_
 case hk=>trivial
 conv=>arg 9;cbv
 try simp only[OK]
 repeat' first|((with_reducible refine Be hA hd hQ 200 ?hk ?_);(case hk=>trivial);(conv=>arg 9;cbv);(try simp only[OK]))|((refine⟨_,_,?l1,l1,rfl,?_⟩);(case l1=>exact rfl))|((with_reducible refine cO ?hg ?_);(case hg=>with_reducible exact Bi F283_ok);(refine tM (k2 _ _ rfl) fun v hh hx=>?_);(obtain⟨c',⟨hv,hc'⟩,hh'⟩:=hx;subst hv;subst hc';subst hh'))
 all_goals exact fI_ rfl ⟨rfl,Nat.succ_pos _,rfl⟩
end
end Go.Proofs.YtkjhfefbklcciaaGreatDoor.Stats
