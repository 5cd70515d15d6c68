/- No conditions. -/
import Derived.Test.YtehgpabfgjofhaaGreatDoorMb
import Derived.Test.YtehgpabfgjofhaaGreatDoorX37
set_option linter.unusedVariables false
set_option linter.unusedSimpArgs false
set_option maxRecDepth 100000
set_option maxHeartbeats 16000000
namespace Go.Proofs.YtehgpabfgjofhaaGreatDoor.Stats
open Go Go.Proofs.YtehgpabfgjofhaaGreatDoor Go.Proofs.YtehgpabfgjofhaaGreatDoor.Em Go.Proofs
def Ly(f:Fld)(d:Dat):Prop:=
 (d.bufs.length=Cc f.kind/\d.kids.length=Dh f/\(d.dict.length:Int)=DZ f)/\(0<=d.len/\0<=d.ofs/\0<=d.nuls/\d.nuls<=d.len)/\d.len<=4096/\d.ofs<=4096/\d.ofs+d.len<=4096
def bigP(d:Dat)(n:Nat):Prop:=∀j<n,(d.buf j).length<=65536
def needP(f:Fld)(d:Dat)(n:Nat):Prop:=∀j<n,CS f j (d.ofs+d.len) (d.buf j).length<=(d.buf j).length
def kidP(f:Fld)(d:Dat)(n:Nat):Prop:=∀j<n,(f.kind=16->(d.ofs+d.len)*f.width<=(d.kids.getD j Bf).len)/\(f.kind=17->d.ofs+d.len<=(d.kids.getD j Bf).len)
def DD(f:Fld)(d:Dat):Prop:=Ly f d/\bigP d d.bufs.length/\needP f d d.bufs.length/\kidP f d d.kids.length/\Ix f d
theorem bigP.succ{d:Dat}{n:Nat}:bigP d (n+1)↔bigP d n/\(d.buf n).length<=65536:=
 ⟨fun h=>⟨fun i hi=>h i (by omega),h n (by omega)⟩,fun⟨h,k⟩ i hi=>by
  rcases Nat.lt_succ_iff_lt_or_eq.1 hi with hi|rfl
  ·exact h i hi
  ·exact k⟩
theorem needP.succ{f:Fld}{d:Dat}{n:Nat}:needP f d (n+1)↔needP f d n/\CS f n (d.ofs+d.len) (d.buf n).length<=(d.buf n).length:=
 ⟨fun h=>⟨fun i hi=>h i (by omega),h n (by omega)⟩,fun⟨h,k⟩ i hi=>by
  rcases Nat.lt_succ_iff_lt_or_eq.1 hi with hi|rfl
  ·exact h i hi
  ·exact k⟩
theorem kidP.succ{f:Fld}{d:Dat}{n:Nat}:kidP f d (n+1)↔kidP f d n/\(f.kind=16->(d.ofs+d.len)*f.width<=(d.kids.getD n Bf).len)/\(f.kind=17->d.ofs+d.len<=(d.kids.getD n Bf).len):=
 ⟨fun h=>⟨fun i hi=>h i (by omega),h n (by omega)⟩,fun⟨h,k⟩ i hi=>by
  rcases Nat.lt_succ_iff_lt_or_eq.1 hi with hi|rfl
  ·exact h i hi
  ·exact k⟩
theorem Nq{d:Dat}(h:okA d){b:List Nat}(hb:b∈d.bufs):LI b:=by
 obtain⟨a1,a2,a3,a4,a5,a6⟩:=d
 unfold okA at h
 exact h.2.2.2.2.1 b hb
theorem bigP.le{d:Dat}{n m:Nat}(h:bigP d n)(hm:m<=n):bigP d m:=fun i hi=>h i (by omega)
theorem needP.le{f:Fld}{d:Dat}{n m:Nat}(h:needP f d n)(hm:m<=n):needP f d m:=fun i hi=>h i (by omega)
theorem kidP.le{f:Fld}{d:Dat}{n m:Nat}(h:kidP f d n)(hm:m<=n):kidP f d m:=fun i hi=>h i (by omega)
theorem zC1 (f : Fld) (d : Dat) (hs : SubF f) (hsm : Cu f) (hok : okA d) (h : EH) :
    Tri Tryz.prog gs 71 [.agg (Bo f), .agg (Bs d)] h fun v h' => IsF0 (DD f d) v ∧ h' = h := by
  have hsh := Yq f hs hsm
  have hF80 := Ds 80 0
  have hF81 := Ds 81 0
  have hF3 := Ds 3 0
  have hF4 := fun a => Ds 4 a
  have hF82 := fun a => Ds 82 a
  have hlens : BH d.len ∧ BH d.ofs ∧ BH d.nuls ∧ d.bufs.length ≤ 140737488351232 ∧ d.kids.length ≤ 140737488351232 ∧ d.dict.length ≤ 140737488351232 := by
    obtain ⟨a1, a2, a3, a4, a5, a6⟩ := d
    unfold okA at hok
    exact ⟨hok.1, hok.2.1, hok.2.2.1, hok.2.2.2.1, hok.2.2.2.2.2.1, hok.2.2.2.2.2.2.2.1⟩
  unfold BH at hlens
  have hnul : Ly f d → bigP d d.bufs.length → needP f d d.bufs.length → ∀ h : EH, Tri Tryz.prog gs 96 [.agg (Bo f), .agg (Bs d)] h fun v h' => IsF0 (Ix f d) v ∧ h' = h := fun h1 h2 h3 h => by
    have hl : Cn d := ⟨h1.2.1.1, h1.2.1.2.1, h1.2.2.2.2⟩
    refine zDO f d hl (fun r hr hv => ?_) h
    obtain ⟨a1, a2, a3⟩ := hl
    have hb1 : 1 ≤ d.bufs.length := by
      have e1 := h1.1.1
      obtain ⟨v1, v2, v3⟩ := hv
      unfold Cc at e1
      rw [if_neg (by omega)] at e1
      (repeat' split at e1) <;> omega
    have hm : d.buf 0 ∈ d.bufs := by
      unfold Dat.buf
      rw [lG, lE (by omega)]
      exact List.getElem_mem _
    refine ⟨List.length_pos_iff.1 (by omega), Nq hok hm, h2 0 (by omega), fun hne => ?_⟩
    have e3 := h3 0 (by omega)
    unfold CS at e3
    rw [if_neg hv.2.1, if_neg (by omega), if_pos (by simp)] at e3
    omega
  have hw16 := hs.fits
  unfold Cl at hw16
  have hw16 : f.kind = 16 → 1 ≤ f.width ∧ f.width ≤ 64 := fun e => by
    obtain ⟨-, -, hw16⟩ := hw16
    rw [e] at hw16; simp at hw16; omega
  unfold Ly at hnul
  unfold DD Ly
  have hnd := fun (j n nul : Int) a b c e => zBl f hs j n nul a b c e
  have hwb : Cc f.kind ≤ 3 := by unfold Cc; (repeat' split) <;> omega
  generalize Cc f.kind = wb, Dh f = wp, DZ f = wn at *
  have hb1 := fun n => bigP.succ (d := d) (n := n)
  have hb2 := fun m => fun (h : bigP d d.bufs.length) (hm : m ≤ d.bufs.length) => h.le hm
  have hb0 : bigP d 0 := fun i hi => by omega
  have hn1 := fun n => needP.succ (f := f) (d := d) (n := n)
  have hn2 := fun m => fun (h : needP f d d.bufs.length) (hm : m ≤ d.bufs.length) => h.le hm
  have hn0' : needP f d 0 := fun i hi => by omega
  have hk1 := fun n => kidP.succ (f := f) (d := d) (n := n)
  have hk2 := fun m => fun (h : kidP f d d.kids.length) (hm : m ≤ d.kids.length) => h.le hm
  have hk0 : kidP f d 0 := fun i hi => by omega
  have hbuf : ∀ j, j < d.bufs.length → List.take 1 (List.drop j (Bx d.bufs)) = [isB (d.buf j)] := fun j hj => CA hj
  have hkid := C5 d.kids
  generalize bigP d = BP, needP f d = NP, kidP f d = KP, Ix f d = NU at *
  unfold tyC at *
  rw [BF, BL] at *
  generalize d.len = len, d.ofs = ofs, d.nuls = nls, d.bufs.length = nb, d.kids.length = nk, Bx d.bufs = cb, Bi d.kids = ck, d.dict.length = nd, Bi d.dict = cd at *
  generalize Bl f.kids = kc, f.kids.length = kn, f.nm = nm, f.nul = nul, f.kind = k, f.width = w, f.id = i, f.idx = ix at *
  obtain ⟨r1, r2, r3, r4, r5, r6⟩ := hlens
  obtain ⟨wq, hwq⟩ : ∃ q : Int, q = wp := ⟨_, rfl⟩
  rw [← hwq] at hsh
  refine Tri.faultC0 rfl (Bj F71_ok fun I0 ρ0 w0 Q hρ hQ => ?_) h
  obtain ⟨A, hA⟩ : ∃ A, A = stdA := ⟨_, rfl⟩
  with_reducible refine Be hA hd hQ 200 ?hk ?_
  case hk => trivial
  conv => arg 9; cbv
  try simp only [OK]
  repeat' first | (with_reducible refine OKK.loop ?_) | ((with_reducible refine ⟨fun hbr => ?_, fun hbr => ?_⟩) <;> (try simp (disch := omega) only [hA, Ba] at hbr) <;> (try (with_reducible exfalso; omega))) | ((with_reducible refine Bd hA hd hQ 200 ?hk ?_); (case hk => trivial); (conv => arg 9; cbv); (try simp only [OK])) | ((with_reducible refine cO ?hg ?_); (case hg => with_reducible exact Bb F94_ok); refine tM (hsh _) ?_; rintro _ _ ⟨rfl, rfl⟩) | ((with_reducible refine cO ?hg ?_); (case hg => with_reducible exact Bb F44_ok); refine tM (hF80 _) ?_; rintro _ _ ⟨rfl, rfl⟩) | ((with_reducible refine cO ?hg ?_); (case hg => with_reducible exact Bb F44_ok); refine tM (hF81 _) ?_; rintro _ _ ⟨rfl, rfl⟩) | ((with_reducible refine cO ?hg ?_); (case hg => with_reducible exact Bb F44_ok); refine tM (hF3 _) ?_; rintro _ _ ⟨rfl, rfl⟩)
  all_goals try exact FinR.f0 rfl (Up.refl _) (iff_of_false (by decide) fun hh => by omega)
  have hn0 : A.ib .add .i64 ofs len = ofs + len := by simp (disch := omega) only [hA, Ba] <;> omega
  obtain ⟨n, hn⟩ : ∃ n, n = ofs + len := ⟨_, rfl⟩
  refine oK_ (msk 161 [2, 3, 4, 5, 8, 85, 86, 87]) ?_
  refine oL_ (fun m st => ∃ (z n' : Int), st = ⟨mkT 161 [(2, .ptr 0 0), (3, .ptr 1 0), (4, .ptr 2 0), (5, .lit (.int .i64 wb)), (8, .lit (.int .i64 n')), (85, .isl nb none cb), (86, .lit (.int .i64 (A.ofn nb))), (87, .lit (.int .i64 z))],
      [.blk [.lit (.string nm), .lit (.bool nul), .lit (.int .i64 k), .lit (.int .i64 w), .lit (.int .i64 i), .lit (.int .i64 ix), .isl kn none kc],
       .blk [.lit (.int .i64 len), .lit (.int .i64 ofs), .lit (.int .i64 nls), .isl nb none cb, .isl nk none ck, .isl nd none cd],
       .blk [.lit (.int .i64 0), .lit (.slice none 0 0), .lit (.int .i64 0)]]⟩ ∧ n' = n ∧
      m = (nb - z).toNat ∧ 0 ≤ z ∧ z ≤ nb ∧ BP z.toNat) (fun m st hs' ih => ?_) ⟨0, _, rfl, by rw [hn]; exact hn0, rfl, by omega, by omega, hb0⟩
  obtain ⟨z, n', rfl, hn', hm, hz1, hz2, hap⟩ := hs'
  have hs2 := hb1 z.toNat
  obtain ⟨L, hL⟩ : ∃ q, q = (d.buf z.toNat).length := ⟨_, rfl⟩
  obtain ⟨C, hC⟩ : ∃ q, q = Br (d.buf z.toNat) := ⟨_, rfl⟩
  have l1 : z < nb → List.take 1 (List.drop (A.idx 0 z 1) cb) = [.isl L none C] := fun hz => by
    rw [hA, B3, Nat.zero_add, Nat.mul_one, hbuf _ (by omega), hL, hC]; rfl
  have hend : z = nb → nb = z.toNat := fun e => by omega
  have hnext : z < nb → (A.ib .add .i64 z 1).toNat = z.toNat + 1 := fun hz => by simp (disch := omega) only [hA, Ba]; omega
  have halz := hb2 (z.toNat + 1)
  rw [← hL] at hs2
  with_reducible refine Be hA hd hQ 200 ?hk ?_
  case hk => trivial
  conv => arg 9; cbv
  try simp only [OK]
  repeat' first | (with_reducible refine OKK.loop ?_) | (with_reducible refine OKK.again ?_) | ((with_reducible refine ⟨fun hbr => ?_, fun hbr => ?_⟩) <;> (try simp (disch := omega) only [hA, Ba] at hbr) <;> (try (with_reducible exfalso; omega))) | ((with_reducible refine Bd hA hd hQ 200 ?hk ?_); (case hk => trivial); (conv => arg 9; cbv); (try simp only [OK])) | ((with_reducible refine Bp ?hn ?_); (case hn => ((simp (disch := omega) only [hA, Ba]) <;> omega))) | ((refine ⟨_, _, ?l1, (l1 (by omega)), rfl, ?_⟩); (case l1 => exact rfl)) | ((with_reducible refine cO ?hg ?_); (case hg => with_reducible exact Bb F44_ok); refine tM (hF4 _ _) ?_; rintro _ _ ⟨rfl, rfl⟩)
  · refine FinR.f0 rfl (Up.refl _) (iff_of_false (by decide) fun hh => ?_)
    have := (hs2.1 (halz hh.2.1 (by omega))).2
    omega
  · refine oK_ (msk 161 [2, 3, 4, 5, 8, 85, 86, 87]) (OKs.mv [0, 1, 2] [] (by rw [hρ]; rfl) ⟨by decide, by simp [Bc], by simp⟩ (ih _ _ ⟨A.ib .add .i64 z 1, n', rfl, hn', rfl, ?_, ?_, ?_⟩ ?_))
    · simp (disch := omega) only [hA, Ba]; omega
    · simp (disch := omega) only [hA, Ba]; omega
    · rw [hnext (by omega)]
      exact hs2.2 ⟨hap, by omega⟩
    · simp (disch := omega) only [hA, Ba]; omega
  have hbig : BP nb := by rw [hend (by omega)]; exact hap
  clear ih hs2 hL hC l1 hend hnext halz hap hz1 hz2 hm
  refine oK_ (msk 161 [2, 3, 4, 5, 8, 99, 100, 101]) ?_
  refine oL_ (fun m st => ∃ (z n' : Int), st = ⟨mkT 161 [(2, .ptr 0 0), (3, .ptr 1 0), (4, .ptr 2 0), (5, .lit (.int .i64 wb)), (8, .lit (.int .i64 n')), (99, .isl nb none cb), (100, .lit (.int .i64 (A.ofn nb))), (101, .lit (.int .i64 z))],
      [.blk [.lit (.string nm), .lit (.bool nul), .lit (.int .i64 k), .lit (.int .i64 w), .lit (.int .i64 i), .lit (.int .i64 ix), .isl kn none kc],
       .blk [.lit (.int .i64 len), .lit (.int .i64 ofs), .lit (.int .i64 nls), .isl nb none cb, .isl nk none ck, .isl nd none cd],
       .blk [.lit (.int .i64 0), .lit (.slice none 0 0), .lit (.int .i64 0)]]⟩ ∧ n' = n ∧
      m = (nb - z).toNat ∧ 0 ≤ z ∧ z ≤ nb ∧ NP z.toNat) (fun m st hs' ih => ?_) ⟨0, _, rfl, hn', rfl, by omega, by omega, hn0'⟩
  clear hn'
  obtain ⟨y, n', rfl, hn', hm, hz1, hz2, hap⟩ := hs'
  have hs2 := hn1 y.toNat
  obtain ⟨L, hL⟩ : ∃ q, q = (d.buf y.toNat).length := ⟨_, rfl⟩
  obtain ⟨C, hC⟩ : ∃ q, q = Br (d.buf y.toNat) := ⟨_, rfl⟩
  have l1 : y < nb → List.take 1 (List.drop (A.idx 0 y 1) cb) = [.isl L none C] := fun hz => by
    rw [hA, B3, Nat.zero_add, Nat.mul_one, hbuf _ (by omega), hL, hC]; rfl
  have hend : y = nb → nb = y.toNat := fun e => by omega
  have hnext : y < nb → (A.ib .add .i64 y 1).toNat = y.toNat + 1 := fun hz => by simp (disch := omega) only [hA, Ba]; omega
  have halz := hn2 (y.toNat + 1)
  rw [← hL, ← hn, show ((y.toNat : Nat) : Int) = y by omega] at hs2
  have hc := fun hz : y < nb => hnd y n' (A.ofn L) hz1 (by omega) (by omega) (by omega)
  have eL : (L : Int) = A.ofn L := by rw [hA]; rfl
  rw [← hn', eL] at hs2
  generalize CS f y n' (A.ofn L) = X at *
  rw [← eL] at hs2
  with_reducible refine Be hA hd hQ 200 ?hk ?_
  case hk => trivial
  conv => arg 9; cbv
  try simp only [OK]
  repeat' first | (with_reducible refine OKK.loop ?_) | (with_reducible refine OKK.again ?_) | ((with_reducible refine ⟨fun hbr => ?_, fun hbr => ?_⟩) <;> (try simp (disch := omega) only [hA, Ba] at hbr) <;> (try (with_reducible exfalso; omega))) | ((with_reducible refine Bd hA hd hQ 200 ?hk ?_); (case hk => trivial); (conv => arg 9; cbv); (try simp only [OK])) | ((with_reducible refine Bp ?hn ?_); (case hn => ((simp (disch := omega) only [hA, Ba]) <;> omega))) | ((refine ⟨_, _, ?l1, (l1 (by omega)), rfl, ?_⟩); (case l1 => exact rfl)) | ((with_reducible refine cO ?hg ?_); (case hg => with_reducible exact Bb F44_ok); refine tM (hF82 _ _) ?_; rintro _ _ ⟨rfl, rfl⟩) | (refine cO (Bb F95_ok) (tM (hc (by omega) _) fun v hh hx => ?_); (obtain ⟨⟨z, hv, hz⟩, he⟩ := hx; subst hv; subst he))
  · refine FinR.f0 rfl (Up.refl _) (iff_of_false (by decide) fun hh => ?_)
    have := (hs2.1 (halz hh.2.2.1 (by omega))).2
    omega
  · refine oK_ (msk 161 [2, 3, 4, 5, 8, 99, 100, 101]) (OKs.mv [0, 1, 2] [] (by rw [hρ]; rfl) ⟨by decide, by simp [Bc], by simp⟩ (ih _ _ ⟨A.ib .add .i64 y 1, n', rfl, hn', rfl, ?_, ?_, ?_⟩ ?_))
    · simp (disch := omega) only [hA, Ba]; omega
    · simp (disch := omega) only [hA, Ba]; omega
    · rw [hnext (by omega)]
      exact hs2.2 ⟨hap, by omega⟩
    · simp (disch := omega) only [hA, Ba]; omega
  have hneed : NP nb := by rw [hend (by omega)]; exact hap
  clear ih hs2 hL hC l1 hend hnext halz hap hz1 hz2 hm hc eL
  refine oK_ (msk 161 [2, 3, 4, 5, 8, 120, 121, 122]) ?_
  refine oL_ (fun m st => ∃ (z n' : Int), st = ⟨mkT 161 [(2, .ptr 0 0), (3, .ptr 1 0), (4, .ptr 2 0), (5, .lit (.int .i64 wb)), (8, .lit (.int .i64 n')), (120, .isl nk none ck), (121, .lit (.int .i64 (A.ofn nk))), (122, .lit (.int .i64 z))],
      [.blk [.lit (.string nm), .lit (.bool nul), .lit (.int .i64 k), .lit (.int .i64 w), .lit (.int .i64 i), .lit (.int .i64 ix), .isl kn none kc],
       .blk [.lit (.int .i64 len), .lit (.int .i64 ofs), .lit (.int .i64 nls), .isl nb none cb, .isl nk none ck, .isl nd none cd],
       .blk [.lit (.int .i64 0), .lit (.slice none 0 0), .lit (.int .i64 0)]]⟩ ∧ n' = n ∧
      m = (nk - z).toNat ∧ 0 ≤ z ∧ z ≤ nk ∧ KP z.toNat) (fun m st hs' ih => ?_) ⟨0, _, rfl, hn', rfl, by omega, by omega, hk0⟩
  clear hn'
  obtain ⟨q, n', rfl, hn', hm, hz1, hz2, hap⟩ := hs'
  have hs2 := hk1 q.toNat
  have hL := fun hz : q < nk => hkid q.toNat (by omega)
  rw [BL] at hL
  have l1 := hL
  rw [show q.toNat * 6 = A.idx 0 q 6 by rw [hA, B3]; omega] at l1
  have hend : q = nk → nk = q.toNat := fun e => by omega
  have hnext : q < nk → (A.ib .add .i64 q 1).toNat = q.toNat + 1 := fun hz => by simp (disch := omega) only [hA, Ba]; omega
  have halz := hk2 (q.toNat + 1)
  clear hkid hL
  generalize d.kids.getD q.toNat Bf = c at *
  have hmul : k = 16 → stdA.ib .mul .i64 n' w = (ofs + len) * w := fun e => by
    obtain ⟨w1, w2⟩ := hw16 e
    rw [hn', hn]
    have m1 : 0 ≤ (ofs + len) * w := Int.mul_nonneg (by omega) (by omega)
    have m2 : (ofs + len) * w ≤ 4096 * 64 := Int.mul_le_mul (by omega) (by omega) (by omega) (by omega)
    exact Dq _ _ (by omega) (by omega)
  generalize (ofs + len) * w = M at *
  generalize c.len = clen, c.ofs = cofs, c.nuls = cnls, c.bufs.length = cnb, c.kids.length = cnk, Bx c.bufs = ccb, Bi c.kids = cck, c.dict.length = cnd, Bi c.dict = ccd at *
  with_reducible refine Be hA hd hQ 200 ?hk ?_
  case hk => trivial
  conv => arg 9; cbv
  try simp only [OK]
  repeat' first | (with_reducible refine OKK.again ?_) | ((with_reducible refine ⟨fun hbr => ?_, fun hbr => ?_⟩) <;> (try simp (disch := omega) only [hA, Ba, hmul] at hbr) <;> (try (with_reducible exfalso; omega))) | ((with_reducible refine Bd hA hd hQ 200 ?hk ?_); (case hk => trivial); (conv => arg 9; cbv); (try simp only [OK])) | ((with_reducible refine Bp ?hn ?_); (case hn => ((simp (disch := omega) only [hA, Ba]) <;> omega))) | ((refine ⟨_, _, ?l1, (l1 (by omega)), rfl, ?_⟩); (case l1 => exact rfl)) | ((with_reducible refine cO ?hg ?_); (case hg => with_reducible exact Bb F44_ok); refine tM (hF82 _ _) ?_; rintro _ _ ⟨rfl, rfl⟩) | ((with_reducible refine cO ?hg ?_); (case hg => with_reducible exact Bb F96_ok); (refine tM (hnul (by refine ⟨⟨?_, ?_, ?_⟩, ⟨?_, ?_, ?_, ?_⟩, ?_, ?_, ?_⟩ <;> omega) hbig hneed _) fun v hh hx => ?_); (obtain ⟨⟨fe, fa, hv, hfe⟩, hh'⟩ := hx; subst hv; subst hh'))
  all_goals first
    | (refine FinR.f0 rfl (Up.refl _) (iff_of_false (by decide) fun hh => ?_)
       have h9 := (hs2.1 (halz hh.2.2.2.1 (by omega))).2
       first
         | (have h8 := h9.1 (by omega); omega)
         | (have h8 := h9.2 (by omega); omega))
    | (refine oK_ (msk 161 [2, 3, 4, 5, 8, 120, 121, 122]) (OKs.mv [0, 1, 2] [] (by rw [hρ]; rfl) ⟨by decide, by simp [Bc], by simp⟩ (ih _ _ ⟨A.ib .add .i64 q 1, n', rfl, hn', rfl, ?_, ?_, ?_⟩ ?_))
       · simp (disch := omega) only [hA, Ba]; omega
       · simp (disch := omega) only [hA, Ba]; omega
       · rw [hnext (by omega)]
         exact hs2.2 ⟨hap, fun e => by omega, fun e => by omega⟩
       · simp (disch := omega) only [hA, Ba]; omega)
    | (refine FinR.f0 rfl (Up.refl _) (hfe.trans ⟨fun hh => ⟨by refine ⟨⟨?_, ?_, ?_⟩, ⟨?_, ?_, ?_, ?_⟩, ?_, ?_, ?_⟩ <;> omega, hbig, hneed, by rw [hend (by omega)]; exact hap, hh⟩, fun hh => hh.2.2.2.2⟩))
    | trace_state
def uN(c:Int):Int:=if c<128 then 1 else if 194<=c/\c<=223 then 2 else if 224<=c/\c<=239 then 3 else if 240<=c/\c<=244 then 4 else 0
def uLo(c:Int):Int:=if c=224 then 160 else if c=240 then 144 else 128
def uHi(c:Int):Int:=if c=237 then 159 else if c=244 then 143 else 191
def uOk(n c x y z:Int):Prop:=uN c=1\/2<=uN c/\uN c<=n/\uLo c<=x/\x<=uHi c/\(3<=uN c->128<=y/\y<=191)/\(4<=uN c->128<=z/\z<=191)
def bz(l:List Nat)(i:Nat):Int:=(l.getD i 0:Nat)
def DW(l:List Nat):Prop:=uOk l.length (bz l 0) (bz l 1) (bz l 2) (bz l 3)
inductive Utf:List Nat->Prop
 |nil:Utf []
 |step {l:List Nat}:l≠[]->DW l->Utf (l.drop (uN (bz l 0)).toNat)->Utf l
theorem Utf.iff{l:List Nat}(h:l≠[]):Utf l↔DW l/\Utf (l.drop (uN (bz l 0)).toNat):=
 ⟨fun k=>by cases k with
  |nil=>exact absurd rfl h
  |step _ a b=>exact⟨a,b⟩,fun⟨a,b⟩=>.step h a b⟩
theorem Utf.ascii:∀(n:Nat) {l:List Nat},n<=l.length->(∀i<n,bz l i<128)->(Utf l↔Utf (l.drop n))
 |0,l,_,_=>by rw[List.drop_zero]
 |n+1,[],h,_=>by simp at h
 |n+1,b::l,h,k=>by
  have h0:=k 0 (by omega)
  have e1:uN (bz (b::l) 0)=1:=by unfold uN;rw[if_pos h0]
  rw[Utf.iff (by simp),e1]
  have:=Utf.ascii n (l:=l) (by simpa using h) fun i hi=>k (i+1) (by omega)
  simp only[show (1:Int).toNat=1 from rfl,List.drop_succ_cons,List.drop_zero];rw[this];exact⟨fun h=>h.2,fun h=>⟨.inl e1,h⟩⟩
theorem Utf.go{l:List Nat}(h:l≠[])(k:DW l){n:Nat}(hn:(n:Int)=uN (bz l 0)):Utf l↔Utf (l.drop n):=by
 rw[Utf.iff h,<-hn]
 exact⟨fun h=>h.2,fun h=>⟨k,h⟩⟩
theorem P9(l:List Nat)(a i:Nat):bz (l.drop a) i=bz l (a+i):=by
 unfold bz;simp[lG,List.getElem?_drop]
theorem JF(l:List Nat)(i:Nat):0<=bz l i:=by unfold bz;omega
theorem Jf{l:List Nat}(h:AllB l)(i:Nat):bz l i<256:=by
 have:=h.get i
 unfold bz;omega
theorem AllB.drop{l:List Nat}(h:AllB l)(n:Nat):AllB (l.drop n):=fun x hx=>h x (List.mem_of_mem_drop hx)
def BI(t:ByteArray):List Nat:=t.data.toList.map UInt8.toNat
theorem GG(t:ByteArray):(BI t).length=t.size:=by simp[BI]
theorem KJ(t:ByteArray):AllB (BI t):=fun x hx=>by
 obtain⟨b,_,rfl⟩:=List.mem_map.1 hx
 exact b.toNat_lt
theorem WS(t:ByteArray):stdA.enc t=Br (BI t):=by
 simp only[stdA,Br,BI,List.map_map];rfl
theorem Li{l:List Nat}(h:AllB l):BI (CH l)=l:=by
 simp only[CH,BI,List.map_map]
 conv=>rhs;rw[<-List.map_id l]
 refine List.map_congr_left fun x hx=>?_
 simp[Nat.mod_eq_of_lt (h x hx)]
theorem RO(t:ByteArray)(i:Nat):stdA.bat t i=bz (BI t) i:=by
 show ((t.data.toList[i]?).map fun b=>(b.toNat:Int)).getD 0=_
 unfold bz BI
 rw[lG,List.getElem?_map]
 cases t.data.toList[i]?<;>rfl
theorem TA(t:ByteArray)(a b:Nat):BI (stdA.bex t a b)=((BI t).drop a).take (b-a):=by
 show BI (t.extract a b)=_
 unfold BI
 rw[ByteArray.data_extract,Array.toList_extract,List.extract_eq_take_drop,<-List.map_drop,<-List.map_take]
theorem W3(t:ByteArray)(a:Nat):BI (stdA.bex t a t.size)=(BI t).drop a:=by
 rw[TA,lT]
 rw[lD,GG];exact Nat.le_refl _
def C2(z:Int):Prop:=stdA.ib .and .u64 z 9259542123273814144=0
theorem N2(n:Nat)(h:n<18446744073709551616):(BitVec.ofInt IntKind.u64.bits (n:Int)).toNat=n:=by
 show (BitVec.ofInt 64 (n:Int)).toNat=n
 rw[BitVec.ofInt_natCast,BitVec.toNat_ofNat]
 exact Nat.mod_eq_of_lt (by omega)
theorem Kv(n:Nat)(h:n<18446744073709551616):IntKind.u64.wrap (n:Int)=(n:Int):=D7 n h
theorem H5(a b:Int):C2 (stdA.ib .or .u64 a b)↔C2 a/\C2 b:=by
 unfold C2
 have k:∀x:Int,(stdA.ib .and .u64 x 9259542123273814144=0)↔(BitVec.ofInt 64 x &&& BitVec.ofInt 64 9259542123273814144)=0:=fun x=>by
  show IntKind.u64.wrap ((BitVec.ofInt 64 x &&& BitVec.ofInt 64 9259542123273814144).toNat:Int)=0↔_;generalize BitVec.ofInt 64 x &&& BitVec.ofInt 64 9259542123273814144=y;rw[Kv _ y.isLt];constructor
  ·intro h;exact BitVec.eq_of_toNat_eq (by simpa using h)
  ·intro h;rw[h];rfl
 rw[k,k,k]
 have e:BitVec.ofInt 64 (stdA.ib .or .u64 a b)=BitVec.ofInt 64 a ||| BitVec.ofInt 64 b:=by
  show BitVec.ofInt 64 (IntKind.u64.wrap ((BitVec.ofInt 64 a ||| BitVec.ofInt 64 b).toNat:Int))=_;generalize BitVec.ofInt 64 a ||| BitVec.ofInt 64 b=y;rw[Kv _ y.isLt,BitVec.ofInt_natCast];simp
 rw[e]
 generalize BitVec.ofInt 64 a=x,BitVec.ofInt 64 b=y,BitVec.ofInt 64 9259542123273814144=m
 rw[BitVec.and_comm,BitVec.and_or_distrib_left,BitVec.and_comm x,BitVec.and_comm y]
 constructor
 ·intro h
  constructor<;>(apply BitVec.eq_of_getElem_eq;intro i hi;have:=congrArg (fun v:BitVec 64=>v.getLsbD i) h;simp at this ⊢;simp_all)
 ·rintro⟨h1,h2⟩;rw[h1,h2];rfl
theorem HQ(a m k:Nat)(h1:a<2^k)(h2:a+m*2^k<18446744073709551616):stdA.ib .or .u64 (a:Int) ((m*2^k:Nat):Int)=((a+m*2^k:Nat):Int):=by
 show IntKind.u64.wrap _=_
 rw[BitVec.toNat_or,N2 a (by omega),N2 _ (by omega),Nat.or_comm,Nat.mul_comm m,<-Nat.two_pow_add_eq_or_of_lt h1,Nat.add_comm]
 exact Kv _ (by rw[Nat.mul_comm];exact h2)
theorem WR(n a b c d e f g h:Nat)(hn:n=a+b*2^8+c*2^16+d*2^24+e*2^32+f*2^40+g*2^48+h*2^56)
  (h1:a<256) (h2:b<256) (h3:c<256) (h4:d<256) (h5:e<256) (h6:f<256) (h7:g<256) (h8:h<256) (hl:C2 (n:Int)) :
  a<128/\b<128/\c<128/\d<128/\e<128/\f<128/\g<128/\h<128:=by
 have hlt:n<18446744073709551616:=by omega
 have k:n &&& 9259542123273814144=0:=by
  have:IntKind.u64.wrap ((BitVec.ofInt 64 (n:Int) &&& BitVec.ofInt 64 9259542123273814144).toNat:Int)=0:=hl;rw[Kv _ (BitVec.isLt _),BitVec.toNat_and,show (BitVec.ofInt 64 (n:Int)).toNat=n from N2 n hlt]at this;rw[show (BitVec.ofInt 64 9259542123273814144).toNat=9259542123273814144 from by decide +kernel]at this
  exact Int.natCast_eq_zero.1 this
 have bit:∀j:Nat,Nat.testBit 9259542123273814144 j=true->n/2^j%2=0:=fun j hj=>by
  have:=congrArg (fun v:Nat=>v.testBit j) k
  simp only[Nat.testBit_and,hj,Bool.and_true,Nat.zero_testBit]at this;rw[Nat.testBit_eq_decide_div_mod_eq]at this;simp at this;omega
 have b7:=bit 7 (by decide +kernel)
 have b15:=bit 15 (by decide +kernel)
 have b23:=bit 23 (by decide +kernel)
 have b31:=bit 31 (by decide +kernel)
 have b39:=bit 39 (by decide +kernel)
 have b47:=bit 47 (by decide +kernel)
 have b55:=bit 55 (by decide +kernel)
 have b63:=bit 63 (by decide +kernel)
 clear bit k hl
 simp only[Nat.reducePow]at *
 omega
theorem SQ(a b c d e f g h:Nat)(h1:a<256)(h2:b<256)(h3:c<256)(h4:d<256)(h5:e<256)(h6:f<256)(h7:g<256)(h8:h<256) :
  stdA.ib .or .u64 (stdA.ib .or .u64 (stdA.ib .or .u64 (stdA.ib .or .u64 (stdA.ib .or .u64 (stdA.ib .or .u64 (stdA.ib .or .u64 (stdA.wr .u64 (a:Int)) (stdA.sh .shl .u64 (stdA.wr .u64 (b:Int)) 8)) (stdA.sh .shl .u64 (stdA.wr .u64 (c:Int)) 16)) (stdA.sh .shl .u64 (stdA.wr .u64 (d:Int)) 24)) (stdA.sh .shl .u64 (stdA.wr .u64 (e:Int)) 32)) (stdA.sh .shl .u64 (stdA.wr .u64 (f:Int)) 40)) (stdA.sh .shl .u64 (stdA.wr .u64 (g:Int)) 48)) (stdA.sh .shl .u64 (stdA.wr .u64 (h:Int)) 56)
   = ((a+b*2^8+c*2^16+d*2^24+e*2^32+f*2^40+g*2^48+h*2^56:Nat):Int):=by
 have e1:stdA.sh .shl .u64 (b:Int) 8=((b*2^8:Nat):Int):=D8 b 8 (by omega) (by omega)
 have e2:stdA.sh .shl .u64 (c:Int) 16=((c*2^16:Nat):Int):=D8 c 16 (by omega) (by omega)
 have e3:stdA.sh .shl .u64 (d:Int) 24=((d*2^24:Nat):Int):=D8 d 24 (by omega) (by omega)
 have e4:stdA.sh .shl .u64 (e:Int) 32=((e*2^32:Nat):Int):=D8 e 32 (by omega) (by omega)
 have e5:stdA.sh .shl .u64 (f:Int) 40=((f*2^40:Nat):Int):=D8 f 40 (by omega) (by omega)
 have e6:stdA.sh .shl .u64 (g:Int) 48=((g*2^48:Nat):Int):=D8 g 48 (by omega) (by omega)
 have e7:stdA.sh .shl .u64 (h:Int) 56=((h*2^56:Nat):Int):=D8 h 56 (by omega) (by omega)
 rw[D7 a (by omega),D7 b (by omega),D7 c (by omega),D7 d (by omega),D7 e (by omega),D7 f (by omega),D7 g (by omega),D7 h (by omega),e1,e2,e3,e4,e5,e6,e7,
  HQ a b 8 (by omega) (by omega),HQ _ c 16 (by omega) (by omega),HQ _ d 24 (by omega) (by omega),HQ _ e 32 (by omega) (by omega),HQ _ f 40 (by omega) (by omega),HQ _ g 48 (by omega) (by omega),HQ _ h 56 (by omega) (by omega)]
theorem US(b:List Nat)(hb:AllB b){z:Int}(hz:z=((b.getD 0 0+b.getD 1 0*2^8+b.getD 2 0*2^16+b.getD 3 0*2^24+b.getD 4 0*2^32+b.getD 5 0*2^40+b.getD 6 0*2^48+b.getD 7 0*2^56:Nat):Int))(hl:C2 z):∀i<8,bz b i<128:=fun i hi=>by
 rw[hz]at hl
 have:=WR _ _ _ _ _ _ _ _ _ rfl (hb.get 0) (hb.get 1) (hb.get 2) (hb.get 3) (hb.get 4) (hb.get 5) (hb.get 6) (hb.get 7) hl
 unfold bz
 match i,hi with
 |0,_=>omega
 |1,_=>omega
 |2,_=>omega
 |3,_=>omega
 |4,_=>omega
 |5,_=>omega
 |6,_=>omega
 |7,_=>omega
 |j+8,h=>omega
theorem YL(t:ByteArray)(h8:8<=t.size)(h9:t.size<=140737488351232)(h:EH) :
  Tri Tryz.prog gs 126 [.lit (.string t)] h fun v h'=>IsN .u64 (fun z=>C2 z->∀i<8,bz (BI t) i<128) v/\h'=h:=by
 have ha:=KJ t
 have hE:=SQ _ _ _ _ _ _ _ _ (ha.get 0) (ha.get 1) (ha.get 2) (ha.get 3) (ha.get 4) (ha.get 5) (ha.get 6) (ha.get 7)
 have hL:=fun z=>US (BI t) ha (z:=z)
 rw[<-hE]at hL
 have hB:=RO t
 refine Tri.intC rfl (Bj F126_ok fun I0 ρ0 w0 Q hρ hQ=>?_) h
 obtain⟨A,hA⟩:∃A,A=stdA:=⟨_,rfl⟩
 with_reducible refine Be hA hd hQ 200 ?hk ?_
 case hk=>trivial
 conv=>arg 9;cbv
 try simp only[OK]
 repeat' first|((with_reducible refine Bp ?hn ?_);(case hn=>((simp(disch:=omega)only[hA,Ba])<;>omega)))
 refine FinR.n rfl (hL _ ?_)
 subst hA
 have e:∀i:Nat,(((BI t).getD i 0:Nat):Int)=stdA.bat t i:=fun i=>(hB i).symm
 rw[e 0,e 1,e 2,e 3,e 4,e 5,e 6,e 7]
 rfl
theorem zDT(b:List Nat)(n:Nat)(cp:Option Nat)(c:List EV)(hc:c=Br b)(ha:AllB b)(hn:n<=b.length)(h8:8<=n)(h9:n<=140737488351232)(h:EH) :
  Tri Tryz.prog gs 130 [.isl n cp c] h fun v h'=>IsN .u64 (fun z=>C2 z->∀i<8,bz b i<128) v/\h'=h:=by
 have hE:=SQ _ _ _ _ _ _ _ _ (ha.get 0) (ha.get 1) (ha.get 2) (ha.get 3) (ha.get 4) (ha.get 5) (ha.get 6) (ha.get 7)
 have hL:=fun z=>US b ha (z:=z)
 rw[<-hE]at hL
 refine Tri.intC rfl (Bj F130_ok fun I0 ρ0 w0 Q hρ hQ=>?_) h
 obtain⟨A,hA⟩:∃A,A=stdA:=⟨_,rfl⟩
 obtain⟨x0,e0⟩:∃x:Int,x=((b.getD 0 0:Nat):Int):=⟨_,rfl⟩
 obtain⟨x1,e1⟩:∃x:Int,x=((b.getD 1 0:Nat):Int):=⟨_,rfl⟩
 obtain⟨x2,e2⟩:∃x:Int,x=((b.getD 2 0:Nat):Int):=⟨_,rfl⟩
 obtain⟨x3,e3⟩:∃x:Int,x=((b.getD 3 0:Nat):Int):=⟨_,rfl⟩
 obtain⟨x4,e4⟩:∃x:Int,x=((b.getD 4 0:Nat):Int):=⟨_,rfl⟩
 obtain⟨x5,e5⟩:∃x:Int,x=((b.getD 5 0:Nat):Int):=⟨_,rfl⟩
 obtain⟨x6,e6⟩:∃x:Int,x=((b.getD 6 0:Nat):Int):=⟨_,rfl⟩
 obtain⟨x7,e7⟩:∃x:Int,x=((b.getD 7 0:Nat):Int):=⟨_,rfl⟩
 rw[<-e0,<-e1,<-e2,<-e3,<-e4,<-e5,<-e6,<-e7]at hL
 have l0:List.take 1 (List.drop (A.idx 0 0 1) c)=[.lit (.int .u8 x0)]:=by rw[hA,hc,e0];exact DO b 0 (by omega)
 have l1:List.take 1 (List.drop (A.idx 0 1 1) c)=[.lit (.int .u8 x1)]:=by rw[hA,hc,e1];exact DO b 1 (by omega)
 have l2:List.take 1 (List.drop (A.idx 0 2 1) c)=[.lit (.int .u8 x2)]:=by rw[hA,hc,e2];exact DO b 2 (by omega)
 have l3:List.take 1 (List.drop (A.idx 0 3 1) c)=[.lit (.int .u8 x3)]:=by rw[hA,hc,e3];exact DO b 3 (by omega)
 have l4:List.take 1 (List.drop (A.idx 0 4 1) c)=[.lit (.int .u8 x4)]:=by rw[hA,hc,e4];exact DO b 4 (by omega)
 have l5:List.take 1 (List.drop (A.idx 0 5 1) c)=[.lit (.int .u8 x5)]:=by rw[hA,hc,e5];exact DO b 5 (by omega)
 have l6:List.take 1 (List.drop (A.idx 0 6 1) c)=[.lit (.int .u8 x6)]:=by rw[hA,hc,e6];exact DO b 6 (by omega)
 have l7:List.take 1 (List.drop (A.idx 0 7 1) c)=[.lit (.int .u8 x7)]:=by rw[hA,hc,e7];exact DO b 7 (by omega)
 with_reducible refine Be hA hd hQ 200 ?hk ?_
 case hk=>trivial
 conv=>arg 9;cbv
 try simp only[OK]
 repeat' first|((with_reducible refine Bd hA hd hQ 200 ?hk ?_);(case hk=>trivial);(conv=>arg 9;cbv);(try simp only[OK]))|((with_reducible refine Bp ?hn ?_);(case hn=>((simp(disch:=omega)only[hA,Ba])<;>omega)))|((refine⟨_,_,?l1,l0,rfl,?_⟩);(case l1=>exact rfl))|((refine⟨_,_,?l1,l1,rfl,?_⟩);(case l1=>exact rfl))|((refine⟨_,_,?l1,l2,rfl,?_⟩);(case l1=>exact rfl))|((refine⟨_,_,?l1,l3,rfl,?_⟩);(case l1=>exact rfl))|((refine⟨_,_,?l1,l4,rfl,?_⟩);(case l1=>exact rfl))|((refine⟨_,_,?l1,l5,rfl,?_⟩);(case l1=>exact rfl))|((refine⟨_,_,?l1,l6,rfl,?_⟩);(case l1=>exact rfl))|((refine⟨_,_,?l1,l7,rfl,?_⟩);(case l1=>exact rfl))
 refine FinR.n rfl (hL _ ?_)
 subst hA
 rfl
theorem LM(c:Int):(c<128/\uN c=1)\/(194<=c/\c<=223/\uN c=2)\/(224<=c/\c<=239/\uN c=3)\/(240<=c/\c<=244/\uN c=4)\/(128<=c/\(c<194\/244<c)/\uN c=0):=by
 unfold uN;(repeat' split)<;>omega
theorem VQ(c:Int):(c=224/\uLo c=160)\/(c=240/\uLo c=144)\/(c≠224/\c≠240/\uLo c=128):=by
 unfold uLo;(repeat' split)<;>omega
theorem Tw(c:Int):(c=237/\uHi c=159)\/(c=244/\uHi c=143)\/(c≠237/\c≠244/\uHi c=191):=by
 unfold uHi;(repeat' split)<;>omega
theorem G6(t:ByteArray)(i:Nat):0<=bz (BI t) i/\bz (BI t) i<256:=⟨JF _ _,Jf (KJ t) _⟩
theorem zB4(t:ByteArray)(i:Nat)(hi:i<t.size)(h9:t.size<=140737488351232)(h:EH) :
  Tri Tryz.prog gs 114 [.lit (.string t),.lit (.int .i64 i)] h fun v h'=>IsN .i64 (fun z=>(DW ((BI t).drop i)->z=uN (bz ((BI t).drop i) 0))/\(¬DW ((BI t).drop i)->z=0)) v/\h'=h:=by
 have b0:=G6 t i
 have b1:=G6 t (i+1)
 have b2:=G6 t (i+2)
 have b3:=G6 t (i+3)
 have hB:=RO t
 unfold DW uOk
 simp only[P9,lD,GG,Nat.add_zero]
 rw[show ((t.size-i:Nat):Int)=t.size-i by omega]
 obtain⟨x0,e0⟩:∃x:Int,x=bz (BI t) i:=⟨_,rfl⟩
 obtain⟨x1,e1⟩:∃x:Int,x=bz (BI t) (i+1):=⟨_,rfl⟩
 obtain⟨x2,e2⟩:∃x:Int,x=bz (BI t) (i+2):=⟨_,rfl⟩
 obtain⟨x3,e3⟩:∃x:Int,x=bz (BI t) (i+3):=⟨_,rfl⟩
 rw[<-e0]at b0;rw[<-e1]at b1;rw[<-e2]at b2;rw[<-e3]at b3
 rw[<-e0,<-e1,<-e2,<-e3]
 obtain⟨z,hz⟩:∃z:Int,z=i:=⟨_,rfl⟩
 have k0:stdA.bat t z.toNat=x0:=by rw[hB,e0,show z.toNat=i by omega]
 have k1:stdA.bat t (z+1).toNat=x1:=by rw[hB,e1,show (z+1).toNat=i+1 by omega]
 have k2:stdA.bat t (z+2).toNat=x2:=by rw[hB,e2,show (z+2).toNat=i+2 by omega]
 have k3:stdA.bat t (z+3).toNat=x3:=by rw[hB,e3,show (z+3).toNat=i+3 by omega]
 rw[<-hz]
 clear hB e0 e1 e2 e3
 have n1:=LM x0
 have o1:=VQ x0
 have p1:=Tw x0
 generalize uN x0=N,uLo x0=lo,uHi x0=hi at *
 refine Tri.intC rfl (Bj F114_ok fun I0 ρ0 w0 Q hρ hQ=>?_) h
 obtain⟨A,hA⟩:∃A,A=stdA:=⟨_,rfl⟩
 with_reducible refine Be hA hd hQ 200 ?hk ?_
 case hk=>trivial
 conv=>arg 9;cbv
 try simp only[OK]
 repeat' first|(with_reducible refine OKK.loop ?_)|((with_reducible refine⟨fun hbr=>?_,fun hbr=>?_⟩)<;>(try simp(disch:=omega)only[hA,Ba,k0,k1]at hbr)<;>(try (with_reducible exfalso;omega)))|((with_reducible refine Bd hA hd hQ 200 ?hk ?_);(case hk=>trivial);(conv=>arg 9;cbv);(try simp only[OK]))|((with_reducible refine Bp ?hn ?_);(case hn=>((simp(disch:=omega)only[hA,Ba])<;>omega)))
 all_goals try (refine FinR.n rfl ⟨fun hh=>?_,fun hh=>?_⟩<;>omega)
 all_goals
  refine oK_ (msk 92 [0,1,8,9]) ?_;refine oL_ (fun m st=>∃(y n':Int),st=⟨mkT 92 [(0,.lit (.string t)),(1,.lit (.int .i64 z)),(8,.lit (.int .i64 n')),(9,.lit (.int .i64 y))],[]⟩/\n'=N/\m=(4-y).toNat/\2<=y/\y<=4/\y<=n'/\(3<=y->128<=x2/\x2<=191)/\(4<=y->128<=x3/\x3<=191)) (fun m st hs' ih=>?_) ⟨2,_,rfl,by omega,rfl,by omega,by omega,by omega,by omega,by omega⟩
  obtain⟨y,n',rfl,hn',hm,hy1,hy2,hy3,hy4,hy5⟩:=hs';rcases (by omega:y=2\/y=3\/y=4)with hy|hy|hy
  all_goals
   subst hy
   with_reducible refine Be hA hd hQ 200 ?hk ?_
   case hk=>trivial
   conv=>arg 9;cbv
   try simp only[OK]
   repeat' first|(with_reducible refine OKK.again ?_)|((with_reducible refine⟨fun hbr=>?_,fun hbr=>?_⟩)<;>(try simp(disch:=omega)only[hA,Ba,k2,k3]at hbr)<;>(try (with_reducible exfalso;omega)))|((with_reducible refine Bd hA hd hQ 200 ?hk ?_);(case hk=>trivial);(conv=>arg 9;cbv);(try simp only[OK]))|((with_reducible refine Bp ?hn ?_);(case hn=>((simp(disch:=omega)only[hA,Ba])<;>omega)))
   all_goals first
    |(refine FinR.n rfl ⟨fun hh=>?_,fun hh=>?_⟩<;>omega)
    |(refine oK_ (msk 92 [0,1,8,9]) (OKs.mv [] [] (by rw[hρ];rfl) ⟨by decide,by simp[Bc],by simp⟩ (ih _ _ ⟨_,n',rfl,hn',rfl,?_,?_,?_,?_,?_⟩ ?_))<;>(simp(disch:=omega)only[hA,Ba]<;>omega))
theorem Zd(t:ByteArray)(h9:t.size<=140737488351232)(h:EH) :
  Tri Tryz.prog gs 87 [.lit (.string t)] h fun v h'=>IsP (Utf (BI t)) v/\h'=h:=by
 have hu:=fun i hi h=>zB4 t i hi h9 h
 have hl:=GG t
 have ha:=KJ t
 generalize BI t=B at *
 refine Tri.boolC rfl (Bj F87_ok fun I0 ρ0 w0 Q hρ hQ=>?_) h
 obtain⟨A,hA⟩:∃A,A=stdA:=⟨_,rfl⟩
 with_reducible refine Be hA hd hQ 200 ?hk ?_
 case hk=>trivial
 conv=>arg 9;cbv
 try simp only[OK]
 repeat' first|(with_reducible refine OKK.loop ?_)
 refine oK_ (msk 17 [0,3]) ?_
 refine oL_ (fun m st=>∃(y:Int),st=⟨mkT 17 [(0,.lit (.string t)),(3,.lit (.int .i64 y))],[]⟩/\m=(t.size-y).toNat/\0<=y/\y<=t.size/\(Utf B↔Utf (B.drop y.toNat))) (fun m st hs' ih=>?_) ⟨0,rfl,rfl,by omega,by omega,Iff.rfl⟩
 obtain⟨y,rfl,hm,hz1,hz2,hz3⟩:=hs'
 have hn:=hu y.toNat
 rw[show ((y.toNat:Nat):Int)=y by omega]at hn
 have hne:y<t.size->B.drop y.toNat≠[]:=fun h1 h2=>by
  have:=congrArg List.length h2;simp at this;omega
 have hdl:(B.drop y.toNat).length=t.size-y.toNat:=by rw[lD,hl]
 have hdd:∀k,(B.drop y.toNat).drop k=B.drop (y.toNat+k):=fun k=>by rw[List.drop_drop]
 generalize hb:B.drop y.toNat=b at *
 with_reducible refine Be hA hd hQ 200 ?hk ?_
 case hk=>trivial
 conv=>arg 9;cbv
 try simp only[OK]
 repeat' first|(with_reducible refine OKK.again ?_)|((with_reducible refine⟨fun hbr=>?_,fun hbr=>?_⟩)<;>(try simp(disch:=omega)only[hA,Ba]at hbr)<;>(try (with_reducible exfalso;omega)))|((with_reducible refine Bd hA hd hQ 200 ?hk ?_);(case hk=>trivial);(conv=>arg 9;cbv);(try simp only[OK]))|(refine cO (Bb F114_ok) (tM (hn (by omega) _) fun v hh hx=>?_);(obtain⟨⟨z,hv,hz⟩,he⟩:=hx;subst hv;subst he))
 ·refine FinR.bl rfl (iff_of_false (by simp) fun hh=>?_)
  have:=(Utf.iff (hne (by omega))).1 (hz3.1 hh)
  have h1:=hz.1 this.1;have h2:=this.1;unfold DW uOk at h2;omega
 ·have hok:DW b:=Classical.byContradiction fun hc=>by have:=hz.2 hc;omega
  have h1:=hz.1 hok;have h2:=hok;unfold DW uOk at h2;have h3:0<=uN (bz b 0)/\uN (bz b 0)<=4:=by unfold uN;(repeat' split)<;>omega
  have h4:A.ib .add .i64 y z=y+z:=by simp(disch:=omega)only[hA,Ba]<;>omega
  refine oK_ (msk 17 [0,3]) (OKs.mv [] [] (by rw[hρ];rfl) ⟨by decide,by simp[Bc],by simp⟩ (ih _ _ ⟨A.ib .add .i64 y z,rfl,rfl,?_,?_,?_⟩ ?_))
  ·rw[h4];omega
  ·rw[h4];omega
  ·rw[hz3,Utf.go (hne (by omega)) hok (n:=z.toNat) (by omega),hdd,h4,show (y+z).toNat=y.toNat+z.toNat by omega]
  ·rw[h4];omega
 ·refine FinR.bl rfl (iff_of_true rfl (hz3.2 ?_))
  rw[show b=[]from List.length_eq_zero_iff.1 (by omega)]
  exact .nil
theorem NT(t:ByteArray)(a b:Nat):(stdA.bex t a b).size=min b t.size-a:=by
 show (t.extract a b).size=_
 rw[ByteArray.size_extract]
def Eu(x:Int):Int:=if x<128 then 240 else if x<194 then 241 else if x<=223 then 2 else if x=224 then 19 else if x=237 then 35 else if x<=239 then 3 else if x=240 then 52 else if x<244 then 4 else if x=244 then 68 else 241
def NV(l:List EV)(v:Int):Bool:=match l with|[.lit (.int .u8 n)]=>n==v|_=>false
theorem zDu{l:List EV}{v:Int}(h:NV l v=true):l=[.lit (.int .u8 v)]:=by
 unfold NV at h
 split at h
 ·rw[beq_iff_eq.1 h]
 ·cases h
theorem zDJ:((List.range 256).all fun i=>NV (List.take 1 (List.drop (0+i*1) (gs.getD 2 []))) (Eu i))=true:=by decide +kernel
theorem U8{x:Int}(h0:0<=x)(h1:x<256):List.take 1 (List.drop (stdA.idx 0 x 1) (gs.getD 2 []))=[.lit (.int .u8 (Eu x))]:=by
 have:=zDu (List.all_eq_true.1 zDJ x.toNat (List.mem_range.2 (by omega)))
 rw[show ((x.toNat:Nat):Int)=x by omega]at this
 exact this
theorem Um{x:Int}(h0:128<=x)(h1:x<256):∃sz ai lo hi:Int,stdA.ib .and .u8 (Eu x) 7=sz/\stdA.sh .shr .u8 (Eu x) 4=ai/\0<=ai/\ai<16/\0<=sz/\sz<8/\
  List.take 2 (List.drop (stdA.idx 0 (stdA.sh .shr .u8 (Eu x) 4) 2) (gs.getD 3 []))=[.lit (.int .u8 lo),.lit (.int .u8 hi)]/\(2<=uN x->sz=uN x/\lo=uLo x/\hi=uHi x)/\(uN x<2->sz=1):=by
 have hs:∀v,Eu x=v->(∃sz ai lo hi:Int,stdA.ib .and .u8 v 7=sz/\stdA.sh .shr .u8 v 4=ai/\0<=ai/\ai<16/\0<=sz/\sz<8/\
  List.take 2 (List.drop (stdA.idx 0 (stdA.sh .shr .u8 v 4) 2) (gs.getD 3 []))=[.lit (.int .u8 lo),.lit (.int .u8 hi)]/\(2<=uN x->sz=uN x/\lo=uLo x/\hi=uHi x)/\(uN x<2->sz=1))->_:=fun v e h=>by rw[<-e]at h;exact h
 have n:=LM x
 have l:=VQ x
 have k:=Tw x
 have a241:stdA.ib .and .u8 241 7=1:=by decide +kernel
 have a2:stdA.ib .and .u8 2 7=2:=by decide +kernel
 have a19:stdA.ib .and .u8 19 7=3:=by decide +kernel
 have a35:stdA.ib .and .u8 35 7=3:=by decide +kernel
 have a3:stdA.ib .and .u8 3 7=3:=by decide +kernel
 have a52:stdA.ib .and .u8 52 7=4:=by decide +kernel
 have a4:stdA.ib .and .u8 4 7=4:=by decide +kernel
 have a68:stdA.ib .and .u8 68 7=4:=by decide +kernel
 unfold Eu
 generalize uN x=N,uLo x=LO,uHi x=HI at *
 repeat' split
 all_goals first
  |omega
  |(refine⟨_,_,_,_,rfl,rfl,by decide,by decide,by decide +kernel,by decide +kernel,rfl,?_,?_⟩<;>(simp only[a241,a2,a19,a35,a3,a52,a4,a68];intro hq;first|trivial|omega))
def Low(l:List Nat)(a b:Nat):Prop:=∀i,a<=i->i<b->bz l i<128
theorem Low.app{l:List Nat}{a b c:Nat}(h:Low l a b)(k:Low l b c):Low l a c:=fun i h1 h2=>by
 by_cases hb:i<b
 ·exact h i h1 hb
 ·exact k i (by omega) h2
theorem Low.utf{l:List Nat}{n:Nat}(h:Low l 0 n)(hn:n<=l.length):Utf l↔Utf (l.drop n):=Utf.ascii n hn fun i hi=>h i (by omega) hi
theorem Lm{z:Int}{p:Prop}(h:C2 z->p)(k:stdA.ib .and .u64 z 9259542123273814144=0):p:=h k
theorem VU{z y:Int}{p q:Prop}(h:C2 z->p)(h2:C2 y->q)(k:stdA.ib .and .u64 (stdA.ib .or .u64 z y) 9259542123273814144=0):p/\q:=⟨h ((H5 _ _).1 k).1,h2 ((H5 _ _).1 k).2⟩
theorem TC{z y x w:Int}{p q r s:Prop}(h:C2 z->p)(h2:C2 y->q)(h3:C2 x->r)(h4:C2 w->s)
  (k:stdA.ib .and .u64 (stdA.ib .or .u64 (stdA.ib .or .u64 z y) (stdA.ib .or .u64 x w)) 9259542123273814144=0):p/\q/\r/\s:=
 have e:=(H5 _ _).1 k
 ⟨h ((H5 _ _).1 e.1).1,h2 ((H5 _ _).1 e.1).2,h3 ((H5 _ _).1 e.2).1,h4 ((H5 _ _).1 e.2).2⟩
def Suf(u:ByteArray)(k:Nat)(v:ByteArray):Prop:=BI v=(BI u).drop k/\v.size=u.size-k
theorem Suf.refl(u:ByteArray):Suf u 0 u:=⟨by rw[List.drop_zero],by omega⟩
theorem Suf.ext{u v:ByteArray}{k:Nat}(h:Suf u k v)(a:Nat):Suf u (k+a) (stdA.bex v a v.size):=by
 refine⟨by rw[W3,h.1,List.drop_drop],?_⟩
 rw[NT,h.2];omega
theorem Suf.extA{A:Ar}(hA:A=stdA){u v:ByteArray}{k:Nat}(h:Suf u k v)(i:Int)(m:Nat)(hm:m=k+i.toNat):Suf u m (A.bex v (A.tn i) (A.tn (A.ofn (A.bsz v)))):=by
 subst hA;subst hm;exact h.ext i.toNat
theorem HK{u v:ByteArray}{k:Nat}(hs:Suf u k v)(h8:8+k<=u.size)(h9:u.size<=140737488351232)(h:EH) :
  Tri Tryz.prog gs 126 [.lit (.string v)] h fun v h'=>IsN .u64 (fun z=>C2 z->Low (BI u) k (k+8)) v/\h'=h:=
 (YL v (by rw[hs.2];omega) (by rw[hs.2];omega) h).mono fun w h' ⟨⟨z,e1,e2⟩,e3⟩=>⟨⟨z,e1,fun hl i h1 h2=>by
  have:=e2 hl (i-k) (by omega)
  rw[hs.1,P9,show k+(i-k)=i by omega]at this
  exact this⟩,e3⟩
theorem zCA(t:ByteArray)(h9:t.size<=140737488351232)(h:EH) :
  Tri Tryz.prog gs 106 [.lit (.string t)] h fun v h'=>IsP (Utf (BI t)) v/\h'=h:=by
 generalize hT:Utf (BI t)=T
 refine Tri.boolC rfl (Bj F106_ok fun I0 ρ0 w0 Q hρ hQ=>?_) h
 obtain⟨A,hA⟩:∃A,A=stdA:=⟨_,rfl⟩
 with_reducible refine Be hA hd hQ 200 ?hk ?_
 case hk=>trivial
 conv=>arg 9;cbv
 try simp only[OK]
 repeat' first|(with_reducible refine OKK.loop ?_)
 refine oK_ (msk 169 [0]) ?_
 refine oL_ (fun m st=>∃(u:ByteArray),st=⟨mkT 169 [(0,.lit (.string u))],[]⟩/\m=u.size/\u.size<=t.size/\(T↔Utf (BI u))) (fun m st hs' ih=>?_) ⟨t,rfl,rfl,by omega,hT▸Iff.rfl⟩
 obtain⟨u,rfl,hm,hz1,hz2⟩:=hs'
 have b0:=G6 u 0
 have b1:=G6 u 1
 have b2:=G6 u 2
 have b3:=G6 u 3
 have hB:=RO u
 have hl:=GG u
 obtain⟨x0,e0⟩:∃x:Int,x=bz (BI u) 0:=⟨_,rfl⟩
 obtain⟨x1,e1⟩:∃x:Int,x=bz (BI u) 1:=⟨_,rfl⟩
 obtain⟨x2,e2⟩:∃x:Int,x=bz (BI u) 2:=⟨_,rfl⟩
 obtain⟨x3,e3⟩:∃x:Int,x=bz (BI u) 3:=⟨_,rfl⟩
 rw[<-e0]at b0;rw[<-e1]at b1;rw[<-e2]at b2;rw[<-e3]at b3
 have k0:stdA.bat u 0=x0:=by rw[hB,e0]
 have k1:stdA.bat u 1=x1:=by rw[hB,e1]
 have k2:stdA.bat u 2=x2:=by rw[hB,e2]
 have k3:stdA.bat u 3=x3:=by rw[hB,e3]
 have hfs:128<=x0->_:=fun h1=>Um h1 b0.2
 have hf1:List.take 1 (List.drop (A.idx 0 (A.bat u (A.tn 0)) 1) (gs.getD 2 []))=[.lit (.int .u8 (Eu x0))]:=by rw[show A.bat u (A.tn 0)=x0 by rw[hA];exact k0,hA];exact U8 b0.1 b0.2
 generalize Eu x0=f at *
 have S1:=(Suf.refl u).extA hA 1 1 rfl
 have S9:=S1.extA hA 8 9 rfl
 have S17:=S9.extA hA 8 17 rfl
 have S25:=S9.extA hA 16 25 rfl
 have hT1:∀k v,Suf u k v->k<=u.size->Low (BI u) 0 k->(T↔Utf (BI v)):=fun k v hs hk hl'=>by rw[hz2,hs.1];exact hl'.utf (by rw[hl];exact hk)
 by_cases hx:x0<128
 case pos=>
  have L0:Low (BI u) 0 1:=fun i h1 h2=>by rw[show i=0 by omega,<-e0];exact hx
  with_reducible refine Be hA hd hQ 200 ?hk ?_
  case hk=>trivial
  conv=>arg 9;cbv
  try simp only[OK]
  repeat' first|(with_reducible refine OKK.loop ?_)|(with_reducible refine OKK.again ?_)|((with_reducible refine⟨fun hbr=>?_,fun hbr=>?_⟩)<;>(try simp(disch:=omega)only[hA,Ba,Int.reduceToNat,k0,NT,Int.toNat_natCast,Nat.min_self]at hbr)<;>(try (with_reducible exfalso;omega)))|((with_reducible refine Bd hA hd hQ 200 ?hk ?_);(case hk=>trivial);(conv=>arg 9;cbv);(try simp only[OK]))|((with_reducible refine Bp ?hn ?_);(case hn=>((simp(disch:=omega)only[hA,Ba,Int.reduceToNat,NT,Int.toNat_natCast,Nat.min_self])<;>omega)))|(refine cO (Bb F126_ok) (tM (HK S1 (by omega) (by omega) _) fun v hh hx=>?_);(obtain⟨⟨z,hv,hz⟩,he⟩:=hx;subst hv;subst he))|(refine cO (Bb F126_ok) (tM (HK S9 (by omega) (by omega) _) fun v hh hx=>?_);(obtain⟨⟨z,hv,hz⟩,he⟩:=hx;subst hv;subst he))|(refine cO (Bb F126_ok) (tM (HK S17 (by omega) (by omega) _) fun v hh hx=>?_);(obtain⟨⟨z,hv,hz⟩,he⟩:=hx;subst hv;subst he))
  all_goals first
   |(refine FinR.bl rfl (iff_of_true rfl (hz2.2 ?_));rw[show BI u=[]from List.length_eq_zero_iff.1 (by omega)];exact .nil)
   |(refine oK_ (msk 169 [0]) (OKs.mv [] [] (by rw[hρ];rfl) ⟨by decide,by simp[Bc],by simp⟩ (ih _ _ ⟨_,rfl,rfl,by rw[S1.2];omega,hT1 1 _ S1 (by omega) L0⟩ (by rw[S1.2];omega))))
   |(refine oK_ (msk 169 [0]) (OKs.mv [] [] (by rw[hρ];rfl) ⟨by decide,by simp[Bc],by simp⟩ (ih _ _ ⟨_,rfl,rfl,by rw[S9.2];omega,hT1 9 _ S9 (by omega) (L0.app (Lm (by assumption) (by assumption)))⟩ (by rw[S9.2];omega))))
   |skip
  have L1:Low (BI u) 1 9:=Lm (by assumption) (by assumption)
  have L2:Low (BI u) 9 17/\Low (BI u) 17 25:=VU (by assumption) (by assumption) (by assumption)
  have hT2:=hT1 25 _ S25 (by omega) (((L0.app L1).app L2.1).app L2.2)
  refine oK_ (msk 169 [0]) ?_;refine oL_ (fun m st=>∃(v:ByteArray),st=⟨mkT 169 [(0,.lit (.string v))],[]⟩/\m=v.size/\v.size<u.size/\(T↔Utf (BI v))) (fun m st hs' ih2=>?_) ⟨_,rfl,rfl,Nat.lt_of_le_of_lt (Nat.le_of_eq S25.2) (by omega),hT2⟩
  clear S1 S9 S17 S25 hT1 hT2 L0 L1 L2;obtain⟨v,rfl,hm2,hv1,hv2⟩:=hs';have S0:=Suf.refl v;have S8:=S0.extA hA 8 8 rfl;have S16:=S0.extA hA 16 16 rfl;have S24:=S0.extA hA 24 24 rfl;have S32:=S0.extA hA 32 32 rfl
  with_reducible refine Be hA hd hQ 200 ?hk ?_
  case hk=>trivial
  conv=>arg 9;cbv
  try simp only[OK]
  repeat' first|(with_reducible refine OKK.again ?_)|((with_reducible refine⟨fun hbr=>?_,fun hbr=>?_⟩)<;>(try simp(disch:=omega)only[hA,Ba]at hbr)<;>(try (with_reducible exfalso;omega)))|((with_reducible refine Bd hA hd hQ 200 ?hk ?_);(case hk=>trivial);(conv=>arg 9;cbv);(try simp only[OK]))|((with_reducible refine Bp ?hn ?_);(case hn=>((simp(disch:=omega)only[hA,Ba])<;>omega)))|(refine cO (Bb F126_ok) (tM (HK S0 (by omega) (by omega) _) fun v hh hx=>?_);(obtain⟨⟨z,hv,hz⟩,he⟩:=hx;subst hv;subst he))|(refine cO (Bb F126_ok) (tM (HK S8 (by omega) (by omega) _) fun v hh hx=>?_);(obtain⟨⟨z,hv,hz⟩,he⟩:=hx;subst hv;subst he))|(refine cO (Bb F126_ok) (tM (HK S16 (by omega) (by omega) _) fun v hh hx=>?_);(obtain⟨⟨z,hv,hz⟩,he⟩:=hx;subst hv;subst he))|(refine cO (Bb F126_ok) (tM (HK S24 (by omega) (by omega) _) fun v hh hx=>?_);(obtain⟨⟨z,hv,hz⟩,he⟩:=hx;subst hv;subst he))
  all_goals first
   |(refine oK_ (msk 169 [0]) (OKs.mv [] [] (by rw[hρ];rfl) ⟨by decide,by simp[Bc],by simp⟩ (ih _ _ ⟨v,rfl,rfl,by omega,hv2⟩ (by omega))))
   |skip
  have L4:Low (BI v) 0 8/\Low (BI v) 8 16/\Low (BI v) 16 24/\Low (BI v) 24 32:=TC (by assumption) (by assumption) (by assumption) (by assumption) (by assumption)
  refine oK_ (msk 169 [0]) (OKs.mv [] [] (by rw[hρ];rfl) ⟨by decide,by simp[Bc],by simp⟩ (ih2 _ _ ⟨_,rfl,rfl,by rw[S32.2];omega,?_⟩ (by rw[S32.2];omega)))
  rw[hv2,S32.1];exact((L4.1.app (L4.2.1.app (L4.2.2.1.app L4.2.2.2)))).utf (by rw[GG];omega)
 case neg=>
  obtain⟨sz,ai,lo,hi,s1,s2,s3,s4,s5,s6,s7,s8,s9⟩:=hfs (by omega)
  rw[<-hA]at s7;have n1:=LM x0
  have hne:0<u.size->BI u≠[]:=fun hp e=>by
   have h0:=congrArg List.length e;rw[hl,List.length_nil]at h0;omega
  have hok:DW (BI u)↔uOk u.size x0 x1 x2 x3:=by unfold DW;rw[<-e0,<-e1,<-e2,<-e3,hl]
  have hgo:∀k v,Suf u k v->0<u.size->uOk u.size x0 x1 x2 x3->(k:Int)=uN x0->(T↔Utf (BI v)):=fun k v hs hp ho hk=>by
   rw[hz2,hs.1];exact Utf.go (hne hp) (hok.2 ho) (by rw[<-e0];exact hk)
  have hno:0<u.size->¬uOk u.size x0 x1 x2 x3->¬T:=fun hp ho hT'=>ho (hok.1 ((Utf.iff (hne hp)).1 (hz2.1 hT')).1)
  clear hok;unfold uOk at hgo hno;have S2:=(Suf.refl u).extA hA 2 2 rfl;have S3:=(Suf.refl u).extA hA 3 3 rfl;have S4:=(Suf.refl u).extA hA 4 4 rfl;clear e0 e1 e2 e3 hT1 hB hT;generalize uN x0=N,uLo x0=ulo,uHi x0=uhi at *;have hc:(sz=1/\N=0)\/((sz=2\/sz=3\/sz=4)/\N=sz/\lo=ulo/\hi=uhi):=by omega
  clear s8 s9 n1;rcases hc with ⟨c1,c2⟩|⟨hc,c2,c3,c4⟩
  rotate_left
  rcases hc with c1|c1|c1
  all_goals
   subst c1
   try (subst c2;subst c3;subst c4)
  rotate_left 3
  all_goals
   with_reducible refine Be hA hd hQ 200 ?hk ?_
   case hk=>trivial
   conv=>arg 9;cbv
   try simp only[OK]
   repeat' first|(with_reducible refine OKK.again ?_)|((with_reducible refine⟨fun hbr=>?_,fun hbr=>?_⟩)<;>(try simp(disch:=omega)only[hA,Ba,Int.reduceToNat,k0,k1,k2,k3,s1,not_true_eq_false]at hbr)<;>(try (with_reducible exfalso;omega)))|((with_reducible refine Bd hA hd hQ 200 ?hk ?_);(case hk=>trivial);(conv=>arg 9;cbv);(try simp only[OK]))|((with_reducible refine Bp ?hn ?_);(case hn=>((simp(disch:=omega)only[hA,Ba,Int.reduceToNat,k0,s2])<;>omega)))|((refine⟨_,_,?l1,hf1,rfl,?_⟩);(case l1=>exact rfl))|((refine⟨_,_,?l1,s7,rfl,?_⟩);(case l1=>exact rfl))
  all_goals first
   |(refine FinR.bl rfl (iff_of_false (by simp) (hno ?_ ?_))<;>omega)
   |(refine FinR.bl rfl (iff_of_true rfl (hz2.2 ?_));have h0:(BI u).length=0:=(by omega);rw[show BI u=[]from List.length_eq_zero_iff.1 h0];exact .nil)
   |(refine oK_ (msk 169 [0]) (OKs.mv [] [] (by rw[hρ];rfl) ⟨by decide,by simp[Bc],by simp⟩ (ih _ _ ⟨_,rfl,rfl,Nat.le_trans (Nat.le_of_eq S2.2) (by omega),hgo 2 _ S2 (by omega) (by omega) (by omega)⟩ (Nat.lt_of_le_of_lt (Nat.le_of_eq S2.2) (by omega)))))
   |(refine oK_ (msk 169 [0]) (OKs.mv [] [] (by rw[hρ];rfl) ⟨by decide,by simp[Bc],by simp⟩ (ih _ _ ⟨_,rfl,rfl,Nat.le_trans (Nat.le_of_eq S3.2) (by omega),hgo 3 _ S3 (by omega) (by omega) (by omega)⟩ (Nat.lt_of_le_of_lt (Nat.le_of_eq S3.2) (by omega)))))
   |(refine oK_ (msk 169 [0]) (OKs.mv [] [] (by rw[hρ];rfl) ⟨by decide,by simp[Bc],by simp⟩ (ih _ _ ⟨_,rfl,rfl,Nat.le_trans (Nat.le_of_eq S4.2) (by omega),hgo 4 _ S4 (by omega) (by omega) (by omega)⟩ (Nat.lt_of_le_of_lt (Nat.le_of_eq S4.2) (by omega)))))
   |trace_state
def SufB(u:List Nat)(k:Nat)(n:Nat)(c:List EV):Prop:=n=u.length-k/\∃w,AllB w/\c=Br (u.drop k++w)
theorem SufB.extA{A:Ar}(hA:A=stdA){u:List Nat}{k n:Nat}{c:List EV}(h:SufB u k n c)(i:Int)(m:Nat)(hm:m=k+i.toNat):SufB u m (A.sub (A.tn (A.ofn n)) (A.tn i)) (A.drp (A.mul (A.tn i) 1) c):=by
 subst hA;subst hm
 obtain⟨h1,w,h2,h3⟩:=h
 refine⟨?_,w.drop (i.toNat-(u.drop k).length),h2.drop _,?_⟩
 ·show (n:Int).toNat-i.toNat=_
  rw[h1];omega
 ·show c.drop (i.toNat * 1)=_
  rw[h3,Nat.mul_one,GW,List.drop_append,List.drop_drop]
theorem SufB.zero{u:List Nat}{k n:Nat}{c:List EV}(h:SufB u k n c):SufB (u.drop k) 0 n c:=by
 obtain⟨h1,w,h2,h3⟩:=h
 exact⟨by rw[h1,lD];rfl,w,h2,by rw[h3,List.drop_zero]⟩
theorem SF{l m:List Nat}{i:Nat}(h:i<l.length):bz (l++m) i=bz l i:=by
 unfold bz;rw[lG,lG,List.getElem?_append_left h]
theorem HV{u:List Nat}{k n:Nat}{c:List EV}(hs:SufB u k n c)(ha:AllB u)(h8:8+k<=u.length)(h9:u.length<=140737488351232)(cp:Option Nat)(h:EH) :
  Tri Tryz.prog gs 130 [.isl n cp c] h fun v h'=>IsN .u64 (fun z=>C2 z->Low u k (k+8)) v/\h'=h:=by
 obtain⟨h1,w,h2,h3⟩:=hs
 refine(zDT (u.drop k++w) n cp c h3 ((ha.drop k).app h2) (by rw[h1,List.length_append,lD];omega) (by omega) (by omega) h).mono fun w h' ⟨⟨z,e1,e2⟩,e3⟩=>⟨⟨z,e1,fun hl i h1 h2=>?_⟩,e3⟩
 have:=e2 hl (i-k) (by omega)
 rw[SF (by rw[lD];omega),P9,show k+(i-k)=i by omega]at this
 exact this
theorem zAs(b:List Nat)(n:Nat)(cp:Option Nat)(c:List EV)(hn:n=b.length)(hS:SufB b 0 n c)(ha:AllB b)(h9:b.length<=140737488351232)(h:EH) :
  Tri Tryz.prog gs 120 [.isl n cp c] h fun v h'=>IsP (Utf b) v/\h'=h:=by
 generalize hT:Utf b=T
 refine Tri.boolC rfl (Bj F120_ok fun I0 ρ0 w0 Q hρ hQ=>?_) h
 obtain⟨A,hA⟩:∃A,A=stdA:=⟨_,rfl⟩
 with_reducible refine Be hA hd hQ 200 ?hk ?_
 case hk=>trivial
 conv=>arg 9;cbv
 try simp only[OK]
 repeat' first|(with_reducible refine OKK.loop ?_)|((with_reducible refine⟨fun hbr=>?_,fun hbr=>?_⟩)<;>(try simp(disch:=omega)only[hA,Ba]at hbr)<;>(try (with_reducible exfalso;omega)))|((with_reducible refine Bd hA hd hQ 200 ?hk ?_);(case hk=>trivial);(conv=>arg 9;cbv);(try simp only[OK]))|((with_reducible refine Bp ?hn ?_);(case hn=>((simp(disch:=omega)only[hA,Ba])<;>omega)))
 ·refine oK_ (msk 188 [0]) ?_
  refine oL_ (fun m st=>∃(cp:Option Nat) (c:List EV),st=⟨mkT 188 [(0,.isl 0 cp c)],[]⟩) (fun m st hs' ih=>?_) (n:=0) ⟨_,_,rfl⟩
  obtain⟨cp,c,rfl⟩:=hs'
  with_reducible refine Be hA hd hQ 200 ?hk ?_
  case hk=>trivial
  conv=>arg 9;cbv
  try simp only[OK]
  repeat' first|((with_reducible refine⟨fun hbr=>?_,fun hbr=>?_⟩)<;>(try simp(disch:=omega)only[hA,Ba]at hbr)<;>(try (with_reducible exfalso;omega)))|((with_reducible refine Bd hA hd hQ 200 ?hk ?_);(case hk=>trivial);(conv=>arg 9;cbv);(try simp only[OK]))
  refine FinR.bl rfl (iff_of_true rfl (hT▸?_));rw[show b=[]from List.length_eq_zero_iff.1 (by omega)]
  exact .nil
 refine oK_ (msk 188 [0]) ?_
 refine oL_ (fun m st=>∃(u:List Nat) (n:Nat) (cp:Option Nat) (c:List EV),st=⟨mkT 188 [(0,.isl n cp c)],[]⟩/\n=u.length/\SufB u 0 n c/\AllB u/\m=n/\n<=b.length/\(T↔Utf u)) (fun m st hs' ih=>?_) ⟨b,_,_,_,rfl,by (simp(disch:=omega)only[hA,Ba,Int.reduceToNat];omega),hS.extA hA 0 0 rfl,ha,rfl,by (simp(disch:=omega)only[hA,Ba,Int.reduceToNat];omega),hT▸Iff.rfl⟩
 clear hn hS hbr
 obtain⟨u,n,cp,c,rfl,hn,S0,hau,hm,hz1,hz2⟩:=hs'
 have hbt:∀i<n,List.take 1 (List.drop i c)=[.lit (.int .u8 (bz u i))]:=fun i hi=>by
  obtain⟨_,w,_,hc⟩:=S0;rw[hc,List.drop_zero,DO _ i (by rw[List.length_append];omega),<-SF (m:=w) (by omega)];rfl
 have b0:0<=bz u 0/\bz u 0<256:=⟨JF _ _,Jf hau _⟩
 have b1:0<=bz u 1/\bz u 1<256:=⟨JF _ _,Jf hau _⟩
 have b2:0<=bz u 2/\bz u 2<256:=⟨JF _ _,Jf hau _⟩
 have b3:0<=bz u 3/\bz u 3<256:=⟨JF _ _,Jf hau _⟩
 obtain⟨x0,e0⟩:∃x:Int,x=bz u 0:=⟨_,rfl⟩
 obtain⟨x1,e1⟩:∃x:Int,x=bz u 1:=⟨_,rfl⟩
 obtain⟨x2,e2⟩:∃x:Int,x=bz u 2:=⟨_,rfl⟩
 obtain⟨x3,e3⟩:∃x:Int,x=bz u 3:=⟨_,rfl⟩
 have l0:0<n->List.take 1 (List.drop (A.idx 0 0 1) c)=[.lit (.int .u8 x0)]:=fun h=>by rw[hA,e0];exact hbt 0 h
 have l1:1<n->List.take 1 (List.drop (A.idx 0 1 1) c)=[.lit (.int .u8 x1)]:=fun h=>by rw[hA,e1];exact hbt 1 h
 have l2:2<n->List.take 1 (List.drop (A.idx 0 2 1) c)=[.lit (.int .u8 x2)]:=fun h=>by rw[hA,e2];exact hbt 2 h
 have l3:3<n->List.take 1 (List.drop (A.idx 0 3 1) c)=[.lit (.int .u8 x3)]:=fun h=>by rw[hA,e3];exact hbt 3 h
 rw[<-e0]at b0;rw[<-e1]at b1;rw[<-e2]at b2;rw[<-e3]at b3
 have hT1:∀k,k<=u.length->Low u 0 k->(T↔Utf (u.drop k)):=fun k hk hl'=>by rw[hz2];exact hl'.utf hk
 by_cases hx:x0<128
 case pos=>
  have S1:=S0.extA hA 1 1 rfl;have S9:=S1.extA hA 8 9 rfl;have S17:=S9.extA hA 8 17 rfl;have S25:=S9.extA hA 16 25 rfl;have L0:Low u 0 1:=fun i h1 h2=>by rw[show i=0 by omega,<-e0];exact hx
  with_reducible refine Be hA hd hQ 200 ?hk ?_
  case hk=>trivial
  conv=>arg 9;cbv
  try simp only[OK]
  repeat' first|(with_reducible refine OKK.loop ?_)|(with_reducible refine OKK.again ?_)|((with_reducible refine⟨fun hbr=>?_,fun hbr=>?_⟩)<;>(try simp(disch:=omega)only[hA,Ba,Int.reduceToNat,Int.toNat_natCast]at hbr)<;>(try (with_reducible exfalso;omega)))|((with_reducible refine Bd hA hd hQ 200 ?hk ?_);(case hk=>trivial);(conv=>arg 9;cbv);(try simp only[OK]))|((with_reducible refine Bp ?hn ?_);(case hn=>((simp(disch:=omega)only[hA,Ba,Int.reduceToNat,Int.toNat_natCast])<;>omega)))|((refine⟨_,_,?l1,(l0 (by omega)),rfl,?_⟩);(case l1=>exact rfl))|(refine cO (Bb F130_ok) (tM (HV S1 hau (by omega) (by omega) _ _) fun v hh hx=>?_);(obtain⟨⟨z,hv,hz⟩,he⟩:=hx;subst hv;subst he))|(refine cO (Bb F130_ok) (tM (HV S9 hau (by omega) (by omega) _ _) fun v hh hx=>?_);(obtain⟨⟨z,hv,hz⟩,he⟩:=hx;subst hv;subst he))|(refine cO (Bb F130_ok) (tM (HV S17 hau (by omega) (by omega) _ _) fun v hh hx=>?_);(obtain⟨⟨z,hv,hz⟩,he⟩:=hx;subst hv;subst he))
  all_goals first
   |(refine FinR.bl rfl (iff_of_true rfl (hz2.2 ?_));have h0:u.length=0:=(by omega);rw[show u=[]from List.length_eq_zero_iff.1 h0];exact .nil)
   |(refine oK_ (msk 188 [0]) (OKs.mv [] [] (by rw[hρ];rfl) ⟨by decide,by simp[Bc],by simp⟩ (ih _ _ ⟨_,_,_,_,rfl,S1.1.trans (by rw[lD]),S1.zero,hau.drop _,rfl,Nat.le_trans (Nat.le_of_eq S1.1) (by omega),hT1 1 (by omega) L0⟩ (Nat.lt_of_le_of_lt (Nat.le_of_eq S1.1) (by omega)))))
   |(refine oK_ (msk 188 [0]) (OKs.mv [] [] (by rw[hρ];rfl) ⟨by decide,by simp[Bc],by simp⟩ (ih _ _ ⟨_,_,_,_,rfl,S9.1.trans (by rw[lD]),S9.zero,hau.drop _,rfl,Nat.le_trans (Nat.le_of_eq S9.1) (by omega),hT1 9 (by omega) (L0.app (Lm (by assumption) (by assumption)))⟩ (Nat.lt_of_le_of_lt (Nat.le_of_eq S9.1) (by omega)))))
   |skip
  have L1:Low u 1 9:=Lm (by assumption) (by assumption)
  have L2:Low u 9 17/\Low u 17 25:=VU (by assumption) (by assumption) (by assumption)
  have hT2:=hT1 25 (by omega) (((L0.app L1).app L2.1).app L2.2)
  refine oK_ (msk 188 [0]) ?_;refine oL_ (fun m st=>∃(v:List Nat) (n:Nat) (cp:Option Nat) (c:List EV),st=⟨mkT 188 [(0,.isl n cp c)],[]⟩/\n=v.length/\SufB v 0 n c/\AllB v/\m=n/\n<u.length/\(T↔Utf v)) (fun m st hs' ih2=>?_) ⟨_,_,_,_,rfl,S25.1.trans (by rw[lD]),S25.zero,hau.drop _,rfl,Nat.lt_of_le_of_lt (Nat.le_of_eq S25.1) (by omega),hT2⟩
  clear hbt S0 S1 S9 S17 S25 hT1 hT2 L0 L1 L2 l0 l1 l2 l3;obtain⟨v,n2,cp2,c2,rfl,hn2,S0,hav,hm2,hv1,hv2⟩:=hs';have S8:=S0.extA hA 8 8 rfl;have S16:=S0.extA hA 16 16 rfl;have S24:=S0.extA hA 24 24 rfl;have S32:=S0.extA hA 32 32 rfl
  with_reducible refine Be hA hd hQ 200 ?hk ?_
  case hk=>trivial
  conv=>arg 9;cbv
  try simp only[OK]
  repeat' first|(with_reducible refine OKK.again ?_)|((with_reducible refine⟨fun hbr=>?_,fun hbr=>?_⟩)<;>(try simp(disch:=omega)only[hA,Ba]at hbr)<;>(try (with_reducible exfalso;omega)))|((with_reducible refine Bd hA hd hQ 200 ?hk ?_);(case hk=>trivial);(conv=>arg 9;cbv);(try simp only[OK]))|((with_reducible refine Bp ?hn ?_);(case hn=>((simp(disch:=omega)only[hA,Ba])<;>omega)))|(refine cO (Bb F130_ok) (tM (HV S0 hav (by omega) (by omega) _ _) fun v hh hx=>?_);(obtain⟨⟨z,hv,hz⟩,he⟩:=hx;subst hv;subst he))|(refine cO (Bb F130_ok) (tM (HV S8 hav (by omega) (by omega) _ _) fun v hh hx=>?_);(obtain⟨⟨z,hv,hz⟩,he⟩:=hx;subst hv;subst he))|(refine cO (Bb F130_ok) (tM (HV S16 hav (by omega) (by omega) _ _) fun v hh hx=>?_);(obtain⟨⟨z,hv,hz⟩,he⟩:=hx;subst hv;subst he))|(refine cO (Bb F130_ok) (tM (HV S24 hav (by omega) (by omega) _ _) fun v hh hx=>?_);(obtain⟨⟨z,hv,hz⟩,he⟩:=hx;subst hv;subst he))
  all_goals first
   |(refine oK_ (msk 188 [0]) (OKs.mv [] [] (by rw[hρ];rfl) ⟨by decide,by simp[Bc],by simp⟩ (ih _ _ ⟨v,n2,cp2,c2,rfl,hn2,S0,hav,rfl,by omega,hv2⟩ (by omega))))
   |skip
  have L4:Low v 0 8/\Low v 8 16/\Low v 16 24/\Low v 24 32:=TC (by assumption) (by assumption) (by assumption) (by assumption) (by assumption)
  refine oK_ (msk 188 [0]) (OKs.mv [] [] (by rw[hρ];rfl) ⟨by decide,by simp[Bc],by simp⟩ (ih2 _ _ ⟨_,_,_,_,rfl,S32.1.trans (by rw[lD]),S32.zero,hav.drop _,rfl,Nat.lt_of_le_of_lt (Nat.le_of_eq S32.1) (by omega),?_⟩ (Nat.lt_of_le_of_lt (Nat.le_of_eq S32.1) (by omega))))
  rw[hv2];exact((L4.1.app (L4.2.1.app (L4.2.2.1.app L4.2.2.2)))).utf (by omega)
 case neg=>
  have hfs:=Um (by omega:128<=x0) b0.2
  have hf1:List.take 1 (List.drop (A.idx 0 x0 1) (gs.getD 2 []))=[.lit (.int .u8 (Eu x0))]:=by rw[hA];exact U8 b0.1 b0.2
  generalize Eu x0=f at *;obtain⟨sz,ai,lo,hi,s1,s2,s3,s4,s5,s6,s7,s8,s9⟩:=hfs;rw[<-hA]at s7;have n1:=LM x0
  have hne:0<u.length->u≠[]:=fun hp e=>by
   have h0:=congrArg List.length e;rw[List.length_nil]at h0;omega
  have hok:DW u↔uOk u.length x0 x1 x2 x3:=by unfold DW;rw[<-e0,<-e1,<-e2,<-e3]
  have hgo:∀k:Nat,0<u.length->uOk u.length x0 x1 x2 x3->(k:Int)=uN x0->(T↔Utf (u.drop k)):=fun k hp ho hk=>by
   rw[hz2];exact Utf.go (hne hp) (hok.2 ho) (by rw[<-e0];exact hk)
  have hno:0<u.length->¬uOk u.length x0 x1 x2 x3->¬T:=fun hp ho hT'=>ho (hok.1 ((Utf.iff (hne hp)).1 (hz2.1 hT')).1)
  clear hok;unfold uOk at hgo hno;have S2:=S0.extA hA 2 2 rfl;have S3:=S0.extA hA 3 3 rfl;have S4:=S0.extA hA 4 4 rfl;clear e0 e1 e2 e3 hT1 hT;generalize uN x0=N,uLo x0=ulo,uHi x0=uhi at *;have hc:(sz=1/\N=0)\/((sz=2\/sz=3\/sz=4)/\N=sz/\lo=ulo/\hi=uhi):=by omega
  clear s8 s9 n1;rcases hc with ⟨c1,c2⟩|⟨hc,c2,c3,c4⟩
  rotate_left
  rcases hc with c1|c1|c1
  all_goals
   subst c1
   try (subst c2;subst c3;subst c4)
  rotate_left 3
  all_goals
   with_reducible refine Be hA hd hQ 200 ?hk ?_
   case hk=>trivial
   conv=>arg 9;cbv
   try simp only[OK]
   repeat' first|(with_reducible refine OKK.again ?_)|((with_reducible refine⟨fun hbr=>?_,fun hbr=>?_⟩)<;>(try simp(disch:=omega)only[hA,Ba,s1,not_true_eq_false]at hbr)<;>(try (with_reducible exfalso;omega)))|((with_reducible refine Bd hA hd hQ 200 ?hk ?_);(case hk=>trivial);(conv=>arg 9;cbv);(try simp only[OK]))|((with_reducible refine Bp ?hn ?_);(case hn=>((simp(disch:=omega)only[hA,Ba,s2])<;>omega)))|((refine⟨_,_,?l1,hf1,rfl,?_⟩);(case l1=>exact rfl))|((refine⟨_,_,?l1,s7,rfl,?_⟩);(case l1=>exact rfl))|((refine⟨_,_,?l1,(l0 (by omega)),rfl,?_⟩);(case l1=>exact rfl))|((refine⟨_,_,?l1,(l1 (by omega)),rfl,?_⟩);(case l1=>exact rfl))|((refine⟨_,_,?l1,(l2 (by omega)),rfl,?_⟩);(case l1=>exact rfl))|((refine⟨_,_,?l1,(l3 (by omega)),rfl,?_⟩);(case l1=>exact rfl))
  all_goals first
   |(refine FinR.bl rfl (iff_of_false (by simp) (hno ?_ ?_))<;>omega)
   |(refine FinR.bl rfl (iff_of_true rfl (hz2.2 ?_));have h0:u.length=0:=(by omega);rw[show u=[]from List.length_eq_zero_iff.1 h0];exact .nil)
   |(refine oK_ (msk 188 [0]) (OKs.mv [] [] (by rw[hρ];rfl) ⟨by decide,by simp[Bc],by simp⟩ (ih _ _ ⟨_,_,_,_,rfl,S2.1.trans (by rw[lD]),S2.zero,hau.drop _,rfl,Nat.le_trans (Nat.le_of_eq S2.1) (by omega),hgo 2 (by omega) (by omega) (by omega)⟩ (Nat.lt_of_le_of_lt (Nat.le_of_eq S2.1) (by omega)))))
   |(refine oK_ (msk 188 [0]) (OKs.mv [] [] (by rw[hρ];rfl) ⟨by decide,by simp[Bc],by simp⟩ (ih _ _ ⟨_,_,_,_,rfl,S3.1.trans (by rw[lD]),S3.zero,hau.drop _,rfl,Nat.le_trans (Nat.le_of_eq S3.1) (by omega),hgo 3 (by omega) (by omega) (by omega)⟩ (Nat.lt_of_le_of_lt (Nat.le_of_eq S3.1) (by omega)))))
   |(refine oK_ (msk 188 [0]) (OKs.mv [] [] (by rw[hρ];rfl) ⟨by decide,by simp[Bc],by simp⟩ (ih _ _ ⟨_,_,_,_,rfl,S4.1.trans (by rw[lD]),S4.zero,hau.drop _,rfl,Nat.le_trans (Nat.le_of_eq S4.1) (by omega),hgo 4 (by omega) (by omega) (by omega)⟩ (Nat.lt_of_le_of_lt (Nat.le_of_eq S4.1) (by omega)))))
   |trace_state
def Es(b:List Nat)(p q:Nat):List Nat:=(b.drop p).take (q-p)
def LV(d:Dat)(i:Nat):Prop:=BJ 12 d (d.ofs.toNat+i)=true\/Utf (Es (d.buf 2) (C3 d (i+1)).toNat (C3 d (i+2)).toNat)
def lettP(d:Dat)(n:Nat):Prop:=∀i<n,LV d i
theorem lettP.succ{d:Dat}{n:Nat}:lettP d (n+1)↔lettP d n/\LV d n:=
 ⟨fun h=>⟨fun i hi=>h i (by omega),h n (by omega)⟩,fun⟨h,k⟩ i hi=>by
  rcases Nat.lt_succ_iff_lt_or_eq.1 hi with hi|rfl
  ·exact h i hi
  ·exact k⟩
theorem lettP.le{d:Dat}{n m:Nat}(h:lettP d n)(hm:m<=n):lettP d m:=fun i hi=>h i (by omega)
theorem zA7(b:List Nat)(ha:AllB b)(p q:Nat)(hq:q<=b.length)(hp:p<=q):SufB (Es b p q) 0 (q-p) ((Br b).drop (p*1)):=by
 refine⟨?_,(b.drop p).drop (q-p),(ha.drop _).drop _,?_⟩
 ·unfold Es;rw[lK,lD];omega
 ·unfold Es;rw[List.drop_zero,List.take_append_drop,Nat.mul_one,GW]
theorem VJ(b:List Nat)(p q:Nat)(hq:q<=b.length):(Es b p q).length=q-p:=by
 unfold Es;rw[lK,lD];omega
theorem zAN{b:List Nat}(ha:AllB b)(p q:Nat):AllB (Es b p q):=fun x hx=>ha x (List.mem_of_mem_drop (List.mem_of_mem_take hx))
theorem WQ (f : Fld) (d : Dat) (hk : f.kind = 12 ∨ f.kind = 13 ∨ f.kind = 15) (hdd : Cn d) (hb2 : d.bufs.length = if f.kind = 15 then 2 else 3) (hk15 : f.kind = 15 → d.kids.length = 1)
    (hl1 : 4 * (d.ofs + d.len + 1) ≤ (d.buf 1).length) (hm1 : (d.buf 1).length ≤ 65536) (ha1 : AllB (d.buf 1)) (hm2 : (d.buf 2).length ≤ 65536) (ha2 : f.kind = 12 → AllB (d.buf 2)) (hp : ∀ r, r < d.ofs.toNat + d.len.toNat → Dc f.kind d r) (h : EH) :
    Tri Tryz.prog gs 97 [.agg (Bo f), .agg (Bs d)] h fun v h' => IsF0 (offP d (Ee f.kind d) (d.len.toNat + 1) ∧ (f.kind = 12 → lettP d d.len.toNat)) v ∧ h' = h := by
  have hbl : 2 ≤ d.bufs.length := by rw [hb2]; split <;> omega
  have g1 := CA (l := d.bufs) (j := 1) (by omega)
  change List.take 1 (List.drop 1 (Bx d.bufs)) = [isB (d.buf 1)] at g1
  have g2 : f.kind ≠ 15 → List.take 1 (List.drop 2 (Bx d.bufs)) = [isB (d.buf 2)] := fun e => CA (l := d.bufs) (j := 2) (by rw [hb2, if_neg e]; omega)
  have hsg : ∀ i : Nat, (i : Int) < d.len + 1 → ∀ h, Tri Tryz.prog gs 98 [isB (d.buf 1), .lit (.int .i64 (d.ofs.toNat + i : Nat))] h fun v h' => v = .lit (.int .i64 (C3 d (i + 1))) ∧ h' = h := fun i hi h => by
    obtain ⟨a1, a2, a3⟩ := hdd
    exact Ip _ _ hm1 ha1 (by omega) h
  have hF := fun a => Ds 83 a
  have g0 := fun (e : f.kind = 15) => Gx d.kids 0 (by have := hk15 e; omega)
  unfold Ee
  obtain ⟨T, hT⟩ : ∃ T, T = if f.kind = 15 then (d.kids.getD 0 Bf).len else ((d.buf 2).length : Int) := ⟨_, rfl⟩
  rw [← hT]
  have hT1 : f.kind = 15 → (d.kids.getD 0 Bf).len = T := fun e => by rw [hT, if_pos e]
  have hT2 : f.kind ≠ 15 → ((d.buf 2).length : Int) = T := fun e => by rw [hT, if_neg e]
  clear hT
  have hnl := fun r hr => Lh f d r (hp r hr)
  have hvb : f.kind = 12 → ∀ p q : Nat, q ≤ (d.buf 2).length → p ≤ q → ∀ cp h, Tri Tryz.prog gs 120 [.isl (q - p) cp ((Br (d.buf 2)).drop (p * 1))] h fun v h' => IsP (Utf (Es (d.buf 2) p q)) v ∧ h' = h := fun e p q h1 h2 cp h =>
    zAs _ _ _ _ (VJ _ _ _ h1).symm (zA7 _ (ha2 e) p q h1 h2) (zAN (ha2 e) p q) (by rw [VJ _ _ _ h1]; omega) h
  have hF2 := fun a => Ds 84 a
  have hls := fun n => lettP.succ (d := d) (n := n)
  have hll := fun m => fun (h : lettP d d.len.toNat) (hm : m ≤ d.len.toNat) => h.le hm
  have hle0 : lettP d 0 := fun i hi => by omega
  unfold LV at hls
  clear hp ha2
  obtain ⟨UT, hUT⟩ : ∃ UT : Nat → Nat → Prop, ∀ p q, Utf (Es (d.buf 2) p q) = UT p q := ⟨_, fun _ _ => rfl⟩
  simp only [hUT] at hvb hls
  clear hUT
  have hsc := fun n => offP.succ (d := d) (T := T) (n := n)
  have hal := fun m => fun (h : offP d T (d.len.toNat + 1)) (hm : m ≤ d.len.toNat + 1) => h.le hm
  have hu0 : offP d T 0 := fun i hi => by omega
  have hl0 : C3 d 0 = 0 := rfl
  generalize isB (d.buf 1) = B1 at *
  clear hl1 hm1 ha1
  unfold Cn at hdd
  have hmid : ∀ i, offP d T (d.len.toNat + 1) → i ≤ d.len.toNat → 0 ≤ C3 d (i + 1) ∧ C3 d (i + 1) ≤ T := fun i hq hi => by
    refine ⟨?_, (hq i (by omega)).2⟩
    induction i with
    | zero => have := (hq 0 (by omega)).1; exact this
    | succ i ih => have := (hq (i + 1) (by omega)).1; have := ih (by omega); omega
  have hmid2 : ∀ i, offP d T (d.len.toNat + 1) → i < d.len.toNat → C3 d (i + 1) ≤ C3 d (i + 2) := fun i hq hi => (hq (i + 1) (by omega)).1
  generalize offP d T = DP, C3 d = OF, lettP d = LP, BJ = NR at *
  unfold isB at g2
  generalize (d.buf 2).length = n2, Br (d.buf 2) = c2 at *
  rw [BF, BL] at *
  generalize (d.kids.getD 0 Bf).len = klen at *
  generalize d.len = len, d.ofs = ofs, d.nuls = nls, d.bufs.length = nb, d.kids.length = nk, Bx d.bufs = cb, Bi d.kids = ck, d.dict.length = nd, Bi d.dict = cd at *
  generalize Bl f.kids = kc, f.kids.length = kn, f.nm = nm, f.nul = nul, f.kind = k, f.width = w, f.id = i, f.idx = ix at *
  have hb3 : k ≠ 15 → nb = 3 := fun e => by rw [hb2, if_neg e]
  clear hb2
  refine Tri.faultC0 rfl (Bj F97_ok fun I0 ρ0 w0 Q hρ hQ => ?_) h
  obtain ⟨A, hA⟩ : ∃ A, A = stdA := ⟨_, rfl⟩
  have l0 : k = 15 → List.take 1 (List.drop (A.add (A.idx 0 0 6) 0) ck) = [.lit (.int .i64 T)] := fun e => by rw [hA, ← hT1 e]; exact g0 e
  have l1 : List.take 1 (List.drop (A.idx 0 1 1) cb) = [B1] := by rw [hA]; exact g1
  have l2 : k ≠ 15 → List.take 1 (List.drop (A.idx 0 2 1) cb) = [.isl n2 none c2] := fun e => by rw [hA]; exact g2 e
  have hof : A.ofn n2 = (n2 : Int) := by rw [hA]; rfl
  rcases hk with hk | hk | hk
  all_goals
    with_reducible refine Be hA hd hQ 200 ?hk ?_
    case hk => trivial
    conv => arg 9; cbv
    try simp only [OK]
    repeat' first | (with_reducible refine OKK.loop ?_) | ((with_reducible refine ⟨fun hbr => ?_, fun hbr => ?_⟩) <;> (try simp (disch := omega) only [hA, Ba] at hbr) <;> (try (with_reducible exfalso; omega))) | ((with_reducible refine Bd hA hd hQ 200 ?hk ?_); (case hk => trivial); (conv => arg 9; cbv); (try simp only [OK])) | ((with_reducible refine Bp ?hn ?_); (case hn => ((simp (disch := omega) only [hA, Ba]) <;> omega))) | ((refine ⟨_, _, ?l1, (l0 (by omega)), rfl, ?_⟩); (case l1 => exact rfl)) | ((refine ⟨_, _, ?l1, (l2 (by omega)), rfl, ?_⟩); (case l1 => exact rfl))
    refine oK_ (msk 97 [2, 3, 4, 5, 6, 27, 28]) ?_
    refine oL_ (fun m st => ∃ (z a T' L1 : Int), st = ⟨mkT 97 [(2, .ptr 0 0), (3, .ptr 1 0), (4, .ptr 2 0), (5, .lit (.int .i64 T')), (6, .lit (.int .i64 a)), (27, .lit (.int .i64 L1)), (28, .lit (.int .i64 z))],
        [.blk [.lit (.string nm), .lit (.bool nul), .lit (.int .i64 k), .lit (.int .i64 w), .lit (.int .i64 i), .lit (.int .i64 ix), .isl kn none kc],
         .blk [.lit (.int .i64 len), .lit (.int .i64 ofs), .lit (.int .i64 nls), .isl nb none cb, .isl nk none ck, .isl nd none cd],
         .blk [.lit (.int .i64 0), .lit (.slice none 0 0), .lit (.int .i64 0)]]⟩ ∧ T' = T ∧ L1 = len + 1 ∧
        m = (len + 1 - z).toNat ∧ 0 ≤ z ∧ z ≤ len + 1 ∧ a = OF z.toNat ∧ DP z.toNat) (fun m st hs' ih => ?_) ⟨0, 0, _, _, rfl, by first | rfl | exact hof.trans (hT2 (by omega)), by simp (disch := omega) only [hA, Ba] <;> omega, rfl, by omega, by omega, hl0.symm, hu0⟩
    obtain ⟨z, a, T', L1, rfl, hT', hL1, hm, hz1, hz2, ha, hap⟩ := hs'
    have hs2 := hsc z.toNat
    have hn : z < len + 1 → ∀ h : EH, Tri Tryz.prog gs 98 [B1, .lit (.int .i64 (A.ib .add .i64 ofs z))] h fun v h' => v = .lit (.int .i64 (OF (z.toNat + 1))) ∧ h' = h := fun hz h => by
      rw [show A.ib .add .i64 ofs z = ((ofs.toNat + z.toNat : Nat) : Int) by simp (disch := omega) only [hA, Ba] <;> omega]
      exact hsg z.toNat (by omega) h
    have hend : z = len + 1 → len.toNat + 1 = z.toNat := fun e => by omega
    have hnext : z < len + 1 → (A.ib .add .i64 z 1).toNat = z.toNat + 1 := fun hz => by simp (disch := omega) only [hA, Ba]; omega
    have halz := hal (z.toNat + 1)
    generalize hX : OF (z.toNat + 1) = X at *
    with_reducible refine Be hA hd hQ 200 ?hk ?_
    case hk => trivial
    conv => arg 9; cbv
    try simp only [OK]
    repeat' first | (with_reducible refine OKK.loop ?_) | (with_reducible refine OKK.again ?_) | ((with_reducible refine ⟨fun hbr => ?_, fun hbr => ?_⟩) <;> (try simp (disch := omega) only [hA, Ba] at hbr) <;> (try (with_reducible exfalso; omega))) | ((with_reducible refine Bd hA hd hQ 200 ?hk ?_); (case hk => trivial); (conv => arg 9; cbv); (try simp only [OK])) | ((with_reducible refine Bp ?hn ?_); (case hn => ((simp (disch := omega) only [hA, Ba]) <;> omega))) | ((refine ⟨_, _, ?l1, l1, rfl, ?_⟩); (case l1 => exact rfl)) | ((with_reducible refine cO ?hg ?_); (case hg => with_reducible exact Bb F98_ok); refine tM (hn (by omega) _) ?_; rintro _ _ ⟨rfl, rfl⟩) | ((with_reducible refine cO ?hg ?_); (case hg => with_reducible exact Bb F44_ok); refine tM (hF _ _) ?_; rintro _ _ ⟨rfl, rfl⟩)
    · refine FinR.f0 rfl (Up.refl _) (iff_of_false (by decide) fun hh => ?_)
      have := (hs2.1 (halz hh.1 (by omega))).2
      omega
    · refine FinR.f0 rfl (Up.refl _) (iff_of_false (by decide) fun hh => ?_)
      have := (hs2.1 (halz hh.1 (by omega))).2
      omega
    · refine oK_ (msk 97 [2, 3, 4, 5, 6, 27, 28]) (OKs.mv [0, 1, 2] [] (by rw [hρ]; rfl) ⟨by decide, by simp [Bc], by simp⟩ (ih _ _ ⟨A.ib .add .i64 z 1, X, T', L1, rfl, hT', hL1, rfl, ?_, ?_, ?_, ?_⟩ ?_))
      · simp (disch := omega) only [hA, Ba]; omega
      · simp (disch := omega) only [hA, Ba]; omega
      · rw [hnext (by omega), hX]
      · rw [hnext (by omega)]
        exact hs2.2 ⟨hap, by omega, by omega⟩
      · simp (disch := omega) only [hA, Ba]; omega
    try
      refine FinR.f0 rfl (Up.nil []) (iff_of_true rfl ⟨?_, fun e => by omega⟩)
      rw [hend (by omega)]
      exact hap
  have hap' : DP (len.toNat + 1) := by rw [hend (by omega)]; exact hap
  clear hn hal halz hs2 hend hnext hX ih hm hz1 hz2 ha hap
  refine oK_ (msk 97 [2, 3, 4, 58, 59]) ?_
  refine oL_ (fun m st => ∃ (z : Int), st = ⟨mkT 97 [(2, .ptr 0 0), (3, .ptr 1 0), (4, .ptr 2 0), (58, .lit (.int .i64 len)), (59, .lit (.int .i64 z))],
      [.blk [.lit (.string nm), .lit (.bool nul), .lit (.int .i64 k), .lit (.int .i64 w), .lit (.int .i64 i), .lit (.int .i64 ix), .isl kn none kc],
       .blk [.lit (.int .i64 len), .lit (.int .i64 ofs), .lit (.int .i64 nls), .isl nb none cb, .isl nk none ck, .isl nd none cd],
       .blk [.lit (.int .i64 0), .lit (.slice none 0 0), .lit (.int .i64 0)]]⟩ ∧ m = (len - z).toNat ∧ 0 ≤ z ∧ z ≤ len ∧ LP z.toNat) (fun m st hs' ih => ?_) ⟨0, rfl, rfl, by omega, by omega, hle0⟩
  obtain ⟨z, rfl, hm, hz1, hz2, hap⟩ := hs'
  have hs2 := hls z.toNat
  have hmA := fun h => hmid z.toNat hap' h
  have hmB := fun h => hmid (z.toNat + 1) hap' h
  have hmC := fun h => hmid2 z.toNat hap' h
  have hr0 : z < len → A.ib .add .i64 ofs z = ((ofs.toNat + z.toNat : Nat) : Int) := fun hz => by simp (disch := omega) only [hA, Ba] <;> omega
  have hr1 : z < len → A.ib .add .i64 (A.ib .add .i64 ofs z) 1 = ((ofs.toNat + (z.toNat + 1) : Nat) : Int) := fun hz => by simp (disch := omega) only [hA, Ba] <;> omega
  have hnA : z < len → ∀ h : EH, Tri Tryz.prog gs 98 [B1, .lit (.int .i64 (A.ib .add .i64 ofs z))] h fun v h' => v = .lit (.int .i64 (OF (z.toNat + 1))) ∧ h' = h := fun hz h => by
    rw [hr0 hz]
    exact hsg z.toNat (by omega) h
  have hnB : z < len → ∀ h : EH, Tri Tryz.prog gs 98 [B1, .lit (.int .i64 (A.ib .add .i64 (A.ib .add .i64 ofs z) 1))] h fun v h' => v = .lit (.int .i64 (OF (z.toNat + 2))) ∧ h' = h := fun hz h => by
    rw [hr1 hz]
    exact hsg (z.toNat + 1) (by omega) h
  have hnN : z < len → ∀ h : EH, Tri Tryz.prog gs 99 [.agg [.lit (.string nm), .lit (.bool nul), .lit (.int .i64 k), .lit (.int .i64 w), .lit (.int .i64 i), .lit (.int .i64 ix), .isl kn none kc], .agg [.lit (.int .i64 len), .lit (.int .i64 ofs), .lit (.int .i64 nls), .isl nb none cb, .isl nk none ck, .isl nd none cd], .lit (.int .i64 (A.ib .add .i64 ofs z))] h fun v h' => IsP (NR 12 d (ofs.toNat + z.toNat) = true) v ∧ h' = h := fun hz h => by
    rw [hr0 hz, ← hk]
    exact hnl _ (by omega) h
  generalize hX : OF (z.toNat + 1) = X at *
  generalize hY : OF (z.toNat + 2) = Y at *
  have hv12 : z < len → ∀ cp h, Tri Tryz.prog gs 120 [.isl (A.sub (A.tn Y) (A.tn X)) cp (A.drp (A.mul (A.tn X) 1) c2)] h fun v h' => IsP (UT X.toNat Y.toNat) v ∧ h' = h := fun hz cp h => by
    rw [hA]
    have q1 := hmA (by omega)
    have q2 := hmB (by omega)
    have q3 := hmC (by omega)
    have q4 := hT2 (by omega)
    exact hvb hk X.toNat Y.toNat (by omega) (by omega) cp h
  have hnext : z < len → (A.ib .add .i64 z 1).toNat = z.toNat + 1 := fun hz => by simp (disch := omega) only [hA, Ba]; omega
  have halz := hll (z.toNat + 1)
  have hXY : z < len → 0 ≤ X ∧ X ≤ Y ∧ Y ≤ n2 := fun hz => by
    have q1 := hmA (by omega)
    have q2 := hmB (by omega)
    have q3 := hmC (by omega)
    have q4 := hT2 (by omega)
    omega
  generalize NR 12 d (ofs.toNat + z.toNat) = nr, UT X.toNat Y.toNat = ut at *
  clear hmid hmid2 hmA hmB hmC hvb hnl hsg
  with_reducible refine Be hA hd hQ 200 ?hk ?_
  case hk => trivial
  conv => arg 9; cbv
  try simp only [OK]
  repeat' first | (with_reducible refine OKK.again ?_) | (with_reducible refine And.intro trivial ?_) | ((with_reducible refine ⟨fun hbr => ?_, fun hbr => ?_⟩) <;> (try simp (disch := omega) only [hA, Ba, reduceCtorEq] at hbr) <;> (try (with_reducible exfalso; omega))) | ((with_reducible refine Bd hA hd hQ 200 ?hk ?_); (case hk => trivial); (conv => arg 9; cbv); (try simp only [OK])) | ((with_reducible refine Bp ?hn ?_); (case hn => ((simp (disch := omega) only [hA, Ba]) <;> omega))) | ((refine ⟨_, _, ?l1, l1, rfl, ?_⟩); (case l1 => exact rfl)) | ((refine ⟨_, _, ?l1, (l2 (by omega)), rfl, ?_⟩); (case l1 => exact rfl)) | ((with_reducible refine cO ?hg ?_); (case hg => with_reducible exact Bb F99_ok); (refine tM (hnN (by omega) _) fun v hh hx => ?_); (obtain ⟨⟨b, hv, hb⟩, he⟩ := hx; subst hv; subst he; cases b <;> simp (disch := omega) only [bF, true_iff, false_iff, eq_self] at hb) <;> (try (with_reducible exfalso; omega))) | ((with_reducible refine cO ?hg ?_); (case hg => with_reducible exact Bb F98_ok); refine tM (hnA (by omega) _) ?_; rintro _ _ ⟨rfl, rfl⟩) | ((with_reducible refine cO ?hg ?_); (case hg => with_reducible exact Bb F98_ok); refine tM (hnB (by omega) _) ?_; rintro _ _ ⟨rfl, rfl⟩) | ((with_reducible refine cO ?hg ?_); (case hg => with_reducible exact Bb F120_ok); (refine tM (hv12 (by omega) _ _) fun v hh hx => ?_); (obtain ⟨⟨b, hv, hb⟩, he⟩ := hx; subst hv; subst he; cases b <;> simp (disch := omega) only [bF, true_iff, false_iff, eq_self] at hb) <;> (try (with_reducible exfalso; omega))) | ((with_reducible refine cO ?hg ?_); (case hg => with_reducible exact Bb F44_ok); refine tM (hF2 _ _) ?_; rintro _ _ ⟨rfl, rfl⟩)
  all_goals first
    | (refine FinR.f0 rfl (Up.refl _) (iff_of_false (by decide) fun hh => ?_)
       rcases (hs2.1 (halz (hh.2 hk) (by omega))).2 with h | h
       · exact absurd h (by assumption)
       · exact absurd h (by assumption))
    | (refine oK_ (msk 97 [2, 3, 4, 58, 59]) (OKs.mv [0, 1, 2] [] (by rw [hρ]; rfl) ⟨by decide, by simp [Bc], by simp⟩ (ih _ _ ⟨A.ib .add .i64 z 1, rfl, rfl, ?_, ?_, ?_⟩ ?_))
       · simp (disch := omega) only [hA, Ba]; omega
       · simp (disch := omega) only [hA, Ba]; omega
       · rw [hnext (by omega)]
         exact hs2.2 ⟨hap, by first | exact .inl (by assumption) | exact .inr (by assumption)⟩
       · simp (disch := omega) only [hA, Ba]; omega)
    | (refine FinR.f0 rfl (Up.nil []) (iff_of_true rfl ⟨hap', fun _ => ?_⟩)
       rw [show len.toNat = z.toNat by omega]
       exact hap)
    | trace_state
def Nx(n:Nat):EV:=.lit (.int .i64 n)
def CN(l:List Nat):List EV:=l.map Nx
theorem Y5(l:List Nat):(CN l).length=l.length:=by simp[CN]
theorem Iu(l:List Nat)(i:Nat)(h:i<l.length):((CN l).drop i).take 1=[.lit (.int .i64 (l.getD i 0:Nat))]:=by
 have hl:i<(CN l).length:=by rw[Y5];exact h
 rw[List.drop_eq_getElem_cons hl]
 simp[CN,Nx,lE h]
def DA(l:List Nat):EV:=.isl l.length none (CN l)
def DH(W:List (List Nat)):List EV:=W.map DA
theorem JC(W:List (List Nat))(i:Nat)(h:i<W.length):((DH W).drop i).take 1=[DA (W.getD i [])]:=by
 have hl:i<(DH W).length:=by simp[DH];exact h
 rw[List.drop_eq_getElem_cons hl]
 simp[DH,lE h]
theorem zAp(W:List (List Nat))(p q:Int)(hp:0<=p)(hpq:p<=q)(h0:p≠q->0<W.length/\q<=(W.getD 0 []).length)(hW:(W.getD 0 []).length<=4096)(h:EH) :
  Tri Tryz.prog gs 101 [.isl W.length none (DH W),.lit (.int .i64 p),.lit (.int .i64 q)] h fun v h'=>v = .isl (q.toNat-p.toNat) none ((CN (W.getD 0 [])).drop p.toNat)/\h'=h:=by
 have l0:=fun hh=>JC W 0 hh
 unfold DA at l0
 generalize W.getD 0 []=W0 at *
 obtain⟨n0,hn0⟩:∃n,n=W0.length:=⟨_,rfl⟩
 rw[<-hn0]at l0 h0 hW
 generalize W.length=wn,DH W=wc,CN W0=c0 at *
 refine Tri.valA rfl rfl (Tri.up (R:=fun v _=>Up v (.isl (q.toNat-p.toNat) none (c0.drop p.toNat))) (Bj F101_ok fun I0 ρ0 w0 Q hρ hQ=>?_) fun v h' hu=>⟨_,rfl,hu⟩) h
 obtain⟨A,hA⟩:∃A,A=stdA:=⟨_,rfl⟩
 have l1:p≠q->List.take 1 (List.drop (A.idx 0 0 1) wc)=[.isl n0 none c0]:=fun e=>by rw[hA];exact l0 (h0 e).1
 with_reducible refine Be hA hd hQ 200 ?hk ?_
 case hk=>trivial
 conv=>arg 9;cbv
 try simp only[OK]
 repeat' first|((with_reducible refine⟨fun hbr=>?_,fun hbr=>?_⟩)<;>(try simp(disch:=omega)only[hA,Ba]at hbr)<;>(try (with_reducible exfalso;omega)))|((with_reducible refine Bd hA hd hQ 200 ?hk ?_);(case hk=>trivial);(conv=>arg 9;cbv);(try simp only[OK]))|((with_reducible refine Bp ?hn ?_);(case hn=>((simp(disch:=omega)only[hA,Ba])<;>omega)))|((refine⟨_,_,?l1,(l1 (by omega)),rfl,?_⟩);(case l1=>exact rfl))
 ·refine fI_ rfl ?_
  rw[show q.toNat-p.toNat=0 by omega]
  exact Up.nil _
 ·refine fI_ rfl ?_
  subst hA;show Up (.isl (q.toNat-p.toNat) none (c0.drop (p.toNat * 1))) _;rw[Nat.mul_one];exact Up.refl _
def Ed(l:List Nat)(p q:Nat):Nat:=BA ((l.drop p).take (q-p))
def wtW(f:Fld)(d:Dat)(W:List (List Nat))(r:Nat):Nat:=
 if BJ f.kind d r=true then 16
 else if f.kind=14 then 16+f.width.toNat
 else if f.kind=12\/f.kind=13 then 16+((Bt d (r+1)).toNat-(Bt d r).toNat)
 else if f.kind=15 then 16+Ed (W.getD 0 []) (Bt d r).toNat (Bt d (r+1)).toNat
 else if f.kind=16 then 16+Ed (W.getD 0 []) (r*f.width.toNat) ((r+1)*f.width.toNat)
 else if f.kind=17 then 16+BA (W.map fun l=>l.getD r 0)
 else if f.kind=18 then 16+(W.getD ((d.buf 0).getD r 0) []).getD (Bt d r).toNat 0
 else if f.kind=19 then (W.getD 0 []).getD (CP f.idx d r).toNat 0
 else if f.kind=20 then (W.getD 1 []).getD (GF d r) 0
 else 16
structure wPre (f:Fld) (d:Dat) (W:List (List Nat)):Prop where
 sub:SubF f
 len:Cn d
 nul:∀r,r<d.ofs.toNat+d.len.toNat->Dc f.kind d r
 all:∀l∈W,BA l<=4194304/\l.length<=4096
 num:W.length<=32
 b1:f.kind=12\/f.kind=13\/f.kind=15\/f.kind=18->2<=d.bufs.length/\(d.buf 1).length<=65536/\AllB (d.buf 1)/\4*(d.ofs+d.len)<=(d.buf 1).length/\(f.kind≠18->4*(d.ofs+d.len+1)<=(d.buf 1).length)
 off:f.kind=12\/f.kind=13\/f.kind=15->∀i<d.len.toNat,0<=Bt d (d.ofs.toNat+i)/\Bt d (d.ofs.toNat+i)<=Bt d (d.ofs.toNat+i+1)/\Bt d (d.ofs.toNat+i+1)<=65536/\(f.kind=15->0<W.length/\Bt d (d.ofs.toNat+i+1)<=(W.getD 0 []).length)
 spn:f.kind=16->0<W.length/\(d.ofs+d.len)*f.width<=(W.getD 0 []).length
 str:f.kind=17->∀l∈W,d.ofs+d.len<=l.length
 b0:f.kind=18->(d.buf 0).length<=65536/\AllB (d.buf 0)/\d.ofs+d.len<=(d.buf 0).length
 una:f.kind=18->∀i<d.len.toNat,(d.buf 0).getD (d.ofs.toNat+i) 0<W.length/\0<=Bt d (d.ofs.toNat+i)/\Bt d (d.ofs.toNat+i)<(W.getD ((d.buf 0).getD (d.ofs.toNat+i) 0) []).length
 dic:f.kind=19->d.bufs.length=2/\d.dict.length=1/\(d.buf 1).length<=65536/\AllB (d.buf 1)/\(d.ofs.toNat+d.len.toNat)*Bk f.idx<=(d.buf 1).length/\BH (d.dict.getD 0 Bf).len/\0<W.length/\
  ∀i<d.len.toNat,BJ 19 d (d.ofs.toNat+i)=true\/0<=CP f.idx d (d.ofs.toNat+i)/\CP f.idx d (d.ofs.toNat+i)<(W.getD 0 []).length
 run:f.kind=20->W.length=2/\d.kids.length=2/\JN (d.kids.getD 0 Bf)/\(d.kids.getD 0 Bf).len=(W.getD 1 []).length/\d.ofs+d.len<=DV (d.kids.getD 0 Bf) (d.kids.getD 0 Bf).len.toNat
theorem wPre.fit{f:Fld}{d:Dat}{W:List (List Nat)}(h:wPre f d W):(f.kind=14->1<=f.width/\f.width<=16)/\(f.kind=16->1<=f.width/\f.width<=64)/\(f.kind=19->3<=f.idx/\f.idx<=10):=by
 have e:=h.sub.fits
 unfold Cl at e
 obtain⟨_,_,e⟩:=e
 refine⟨fun k=>?_,fun k=>?_,fun k=>?_⟩<;>(rw[k]at e;simp at e;omega)
theorem KX(l m:List Nat):BA (l++m)=BA l+BA m:=by
 unfold BA
 induction l with
 |nil=>simp
 |cons a l ih=>simp only[lC,List.foldr_cons,ih];omega
theorem Lq(l:List Nat)(n:Nat)(h:n<l.length):BA (l.take (n+1))=BA (l.take n)+l.getD n 0:=by
 rw[List.take_add_one,lE h,KX,lG,lE h]
 rfl
theorem JI(l:List Nat)(n:Nat):BA (l.take n)<=BA l:=by
 conv=>rhs;rw[<-List.take_append_drop n l,KX]
 omega
theorem Sk(l:List Nat)(n:Nat):BA (l.drop n)<=BA l:=by
 conv=>rhs;rw[<-List.take_append_drop n l,KX]
 omega
theorem NI(l:List Nat)(i:Nat):l.getD i 0<=BA l:=by
 by_cases h:i<l.length
 ·have:=Lq l i h
  have:=JI l (i+1);omega
 ·rw[lG,List.getElem?_eq_none (by omega)];simp
theorem Gw{A:Ar}(hA:A=stdA)(O:List EV)(z:Int)(x y:EV)(h:z.toNat<O.length):A.setl (A.setl O (A.idx 0 z 1) [x]) (A.idx 0 z 1) [y]=A.setl O (A.idx 0 z 1) [y]:=by
 subst hA
 show stdA.setl (stdA.setl O (0+z.toNat * 1) [x]) (0+z.toNat * 1) [y]=stdA.setl O (0+z.toNat * 1) [y]
 rw[Nat.zero_add,Nat.mul_one]
 generalize z.toNat=n at *
 simp only[Gn]
 rw[lA,lA]
 have e1:(List.take n O).length=n:=by rw[lK];omega
 rw[List.take_append_of_le_length (by omega),lT (by omega),List.drop_append,List.drop_eq_nil_of_le (by rw[e1];omega),e1]
 simp
theorem R6(f:Fld)(d:Dat)(W:List (List Nat))(r:Nat)(h:BJ f.kind d r≠true) :
  (f.kind=14->wtW f d W r=16+f.width.toNat)/\(f.kind=12\/f.kind=13->wtW f d W r=16+((Bt d (r+1)).toNat-(Bt d r).toNat))/\
  (f.kind=15->wtW f d W r=16+Ed (W.getD 0 []) (Bt d r).toNat (Bt d (r+1)).toNat)/\(f.kind=16->wtW f d W r=16+Ed (W.getD 0 []) (r*f.width.toNat) ((r+1)*f.width.toNat))/\
  (f.kind=17->wtW f d W r=16+BA (W.map fun l=>l.getD r 0))/\(f.kind=18->wtW f d W r=16+(W.getD ((d.buf 0).getD r 0) []).getD (Bt d r).toNat 0)/\
  (f.kind=19->wtW f d W r=(W.getD 0 []).getD (CP f.idx d r).toNat 0)/\(f.kind=20->wtW f d W r=(W.getD 1 []).getD (GF d r) 0)/\
  (f.kind≠14->f.kind≠12->f.kind≠13->f.kind≠15->f.kind≠16->f.kind≠17->f.kind≠18->f.kind≠19->f.kind≠20->wtW f d W r=16):=by
 unfold wtW
 rw[if_neg h]
 generalize f.kind=k
 refine⟨?_,?_,?_,?_,?_,?_,?_,?_,?_⟩
 ·intro e;subst e;rfl
 ·rintro(e|e)<;>subst e<;>rfl
 ·intro e;subst e;rfl
 ·intro e;subst e;rfl
 ·intro e;subst e;rfl
 ·intro e;subst e;rfl
 ·intro e;subst e;rfl
 ·intro e;subst e;rfl
 ·intro e1 e2 e3 e4 e5 e6 e7 e8 e9
  rw[if_neg e1,if_neg (by omega),if_neg e4,if_neg e5,if_neg e6,if_neg e7,if_neg e8,if_neg e9]
theorem zBX(l:List EV)(o:Nat)(v:List EV):(stdA.setl l o v).length=min o l.length+v.length+(l.length-(o+v.length)):=by
 rw[Gn];simp;omega
def Hid(p:Prop):Prop:=p
theorem Hid.mk{p:Prop}(h:p):Hid p:=h
theorem Hid.out{p:Prop}(h:Hid p):p:=h
theorem zC9{A:Ar}(hA:A=stdA)(O:List EV)(z:Int)(x:EV)(h:z.toNat<O.length)(j:Nat):(A.setl O (A.idx 0 z 1) [x])[j]?=if j=z.toNat then some x else O[j]?:=by
 subst hA
 show (stdA.setl O (0+z.toNat * 1) [x])[j]?=_
 rw[Nat.zero_add,Nat.mul_one,Gn,lA]
 generalize z.toNat=n at *
 have e1:(List.take n O).length=n:=by rw[lK];omega
 by_cases h1:j<n
 ·rw[List.getElem?_append_left (by omega),if_neg (by omega),List.getElem?_take,if_pos h1]
 ·rw[List.getElem?_append_right (by omega),e1]
  by_cases h2:j=n
  ·subst h2;simp
  ·obtain⟨m,rfl⟩:∃m,j=n+m+1:=⟨j-n-1,by omega⟩
   rw[if_neg h2,show n+m+1-n=m+1 by omega]
   simp[List.getElem?_drop];congr 1;omega
theorem V0{A:Ar}(hA:A=stdA){O:List EV}(z n:Int)(h:clL O=true):clL (A.setl O (A.idx 0 z 1) [.lit (.int .i64 n)])=true:=by
 subst hA;exact zDR _ h rfl
theorem wPre.le{f:Fld}{d:Dat}{W:List (List Nat)}(h:wPre f d W)(j i:Nat):(W.getD j []).getD i 0<=4194304:=by
 by_cases hj:j<W.length
 ·have:=(h.all (W.getD j []) (by rw[lG,lE hj];exact List.getElem_mem _)).1
  have:=NI (W.getD j []) i;omega
 ·rw[lG (l:=W),List.getElem?_eq_none (by omega)];simp
theorem UX(d:Dat)(R y:Nat)(hy:y<(d.kids.getD 0 Bf).len.toNat)(h1:(R:Int)<CB (d.kids.getD 0 Bf) y)(h2:∀j<y,CB (d.kids.getD 0 Bf) j<=R):GF d R=y:=by
 unfold GF
 rw[List.find?_range_eq_some.2 ⟨decide_eq_true h1,List.mem_range.2 hy,fun j hj=>by rw[decide_eq_false (by have:=h2 j hj;omega)];rfl⟩]
 rfl
theorem Yh(f:Fld)(d:Dat)(W:List (List Nat))(hw:wPre f d W) :
  Tri Tryz.prog gs 76 [.agg (Bo f),.agg (Bs d),.isl W.length none (DH W)] [] fun v h'=>∃C,v = .sl 1 3 0 d.len.toNat (some C)/\∃a b c,h'=[a,b,c,.blk (CN ((List.range d.len.toNat).map fun j=>wtW f d W (d.ofs.toNat+j)))]:=by
 have hbd:=hw.le
 have hW0l:(W.getD 0 []).length<=4096:=by
  by_cases h0:0<W.length
  ·exact(hw.all _ (by rw[lG,lE h0];exact List.getElem_mem _)).2
  ·rw[lG,List.getElem?_eq_none (by omega)];simp
 have hW0b:BA (W.getD 0 [])<=4194304:=by
  by_cases h0:0<W.length
  ·exact(hw.all _ (by rw[lG,lE h0];exact List.getElem_mem _)).1
  ·rw[lG,List.getElem?_eq_none (by omega)];simp[BA]
 have hfit:=Hid.mk hw.fit
 have lB1:Hid (1<d.bufs.length->List.take 1 (List.drop 1 (Bx d.bufs))=[isB (d.buf 1)]):=fun h=>CA (l:=d.bufs) (j:=1) h
 have lB0:Hid (0<d.bufs.length->List.take 1 (List.drop 0 (Bx d.bufs))=[isB (d.buf 0)]):=fun h=>CA (l:=d.bufs) (j:=0) h
 have hsl:=fun p q a b c h=>zAp W p q a b c (by
  by_cases h0:0<W.length
  ·exact(hw.all _ (by rw[lG,lE h0];exact List.getElem_mem _)).2
  ·rw[lG,List.getElem?_eq_none (by omega)];simp) h
 have hwa:=fun i=>R6 f d W (d.ofs.toNat+i)
 have hoff:=Hid.mk hw.off
 have hspn:=Hid.mk hw.spn
 have hb1:=Hid.mk hw.b1
 have huna:=Hid.mk hw.una
 have hb0:=Hid.mk hw.b0
 have hdic:=Hid.mk hw.dic
 have hrun:=Hid.mk hw.run
 have hstr:=Hid.mk hw.str
 have hnum:=hw.num
 have hlen:=hw.len
 unfold Cn at hlen
 have hnl:=fun r hr=>Lh f d r (hw.nul r hr)
 have hk2:Hid (f.kind=20->d.kids.length=2):=fun e=>(hrun.out e).2.1
 have g20:Hid (f.kind=20->List.take 6 (List.drop (0*6) (Bi d.kids))=Bs (d.kids.getD 0 Bf)):=fun e=>C5 d.kids 0 (by have:=hk2.out e;omega)
 have he1:Hid (f.kind=20->List.take 1 (List.drop 1 (Bx (d.kids.getD 0 Bf).bufs))=[isB ((d.kids.getD 0 Bf).buf 1)]):=fun e=>by
  obtain⟨a1,a2,a3,a4,a5⟩:=(hrun.out e).2.2.1;exact CA (l:=(d.kids.getD 0 Bf).bufs) (j:=1) (by omega)
 have he2:Hid (f.kind=20->(d.kids.getD 0 Bf).bufs.length=2):=fun e=>(hrun.out e).2.2.1.2.1
 have hse:Hid (f.kind=20->∀j:Nat,(j:Int)<(d.kids.getD 0 Bf).len->∀h:EH,Tri Tryz.prog gs 98 [isB ((d.kids.getD 0 Bf).buf 1),.lit (.int .i64 ((d.kids.getD 0 Bf).ofs.toNat+j:Nat))] h fun v h'=>v = .lit (.int .i64 (CB (d.kids.getD 0 Bf) j))/\h'=h):=fun e j hj h=>by
  obtain⟨a1,a2,a3,a4,a5⟩:=(hrun.out e).2.2.1;obtain⟨b1,b2,b3⟩:=a1;exact Ip _ _ a3 a4 (by omega) h
 have heo:Hid (f.kind=20->0<=(d.kids.getD 0 Bf).ofs/\0<=(d.kids.getD 0 Bf).len/\(d.kids.getD 0 Bf).ofs+(d.kids.getD 0 Bf).len<=4096):=fun e=>by
  obtain⟨a1,a2,a3,a4,a5⟩:=(hrun.out e).2.2.1;obtain⟨b1,b2,b3⟩:=a1;exact⟨b2,b1,b3⟩
 have hstop:Hid (f.kind=20->∀(R y:Nat),(R:Int)<d.ofs+d.len->(y:Int)<=(d.kids.getD 0 Bf).len->(∀j<y,CB (d.kids.getD 0 Bf) j<=R)->(y:Int)<(d.kids.getD 0 Bf).len):=fun e R y h1 h2 h3=>by
  obtain⟨b1,b2,b3⟩:=(hrun.out e).2.2.1.1;have h5:=(hrun.out e).2.2.2.2;refine Int.lt_iff_le_and_ne.2 ⟨h2,fun he=>?_⟩
  rw[<-he]at h5;rw[Int.toNat_natCast]at h5
  match y with
  |0=>simp only[DV]at h5;omega
  |y+1=>have:=h3 y (by omega);simp only[DV]at h5;omega
 have hrq:Hid (∀R y:Nat,y<(d.kids.getD 0 Bf).len.toNat->(R:Int)<CB (d.kids.getD 0 Bf) y->(∀j<y,CB (d.kids.getD 0 Bf) j<=R)->GF d R=y):=UX d
 generalize hwt:wtW f d W=wt at *
 obtain⟨NR,hNR⟩:∃NR:Nat->Bool,BJ f.kind d=NR:=⟨_,rfl⟩
 rw[hNR]at hnl
 simp only[hNR]at hwa
 have hwnull:∀i,NR i=true->wtW f d W i=16:=fun i h=>by unfold wtW;rw[hNR,if_pos h]
 obtain⟨elen,hel⟩:∃e,e=(d.kids.getD 0 Bf).len:=⟨_,rfl⟩
 have h20:Hid (f.kind=20->0<=elen):=fun e=>by rw[hel];exact((hw.run e).2.2.1.1).1
 obtain⟨ee,hee⟩:∃e,e=CB (d.kids.getD 0 Bf):=⟨_,rfl⟩
 rw[<-hee]at hse hstop hrq
 generalize hW0:W.getD 0 []=W0 at *
 have hixc:f.kind=19->∀R,R<d.ofs.toNat+d.len.toNat->∀h:EH,Tri Tryz.prog gs 100 [.agg (Bo f),.agg (Bs d),.lit (.int .i64 R)] h fun v h'=>v = .lit (.int .i64 (CP f.idx d R))/\h'=h:=fun e R hR=>by
  obtain⟨a1,a2,a3,a4,a5,a6,a7,a8⟩:=hdic.out e;obtain⟨f1,f2⟩:=hfit.out.2.2 e;exact U4 f d R f1 f2 a1 a2 a3 a4 (Nat.le_trans (Nat.mul_le_mul_right _ hR) a5) a6
 generalize hwc:DH W=wc at *
 generalize hwn:W.length=wn at *
 rw[BF,BL]at *
 generalize he:d.kids.getD 0 Bf=e at *
 rw[<-hel]at hse heo hstop hrq g20
 generalize e.ofs=eofs,e.nuls=enls,e.bufs.length=enb,Bx e.bufs=ecb,e.kids.length=enk,Bi e.kids=eck,e.dict.length=en,Bi e.dict=ecd,isB (e.buf 1)=EB at *
 generalize d.len=len,d.ofs=ofs,d.nuls=nls,d.bufs.length=nb,Bx d.bufs=cb,d.kids.length=nk,Bi d.kids=ck,d.dict.length=nd,Bi d.dict=cd at *
 generalize Bl f.kids=kc,f.kids.length=kn,f.nm=nm,f.nul=nul,f.kind=k,f.width=w,f.id=i,f.idx=ix at *
 refine(Bj F76_ok fun I0 ρ0 w0 Q hρ hQ=>?_)
 obtain⟨A,hA⟩:∃A,A=stdA:=⟨_,rfl⟩
 with_reducible refine Be hA hd hQ 200 ?hk ?_
 case hk=>trivial
 conv=>arg 9;cbv
 try simp only[OK]
 repeat' first|(with_reducible refine OKK.loop ?_)|(with_reducible refine OKK.again ?_)|((with_reducible refine⟨fun hbr=>?_,fun hbr=>?_⟩)<;>(try simp(disch:=omega)only[hA,OK,Ba,Int.reduceToNat,Db,DT,reduceCtorEq]at hbr)<;>(try (with_reducible exfalso;omega)))|((with_reducible refine Bd hA hd hQ 200 ?hk ?_);(case hk=>trivial);(conv=>arg 9;cbv);(try simp only[OK]))|((with_reducible refine Bp ?hn ?_);(case hn=>((simp(disch:=omega)only[hA,Ba])<;>omega)))|fail
 refine oK_ (msk 207 [2,3,4,7,8,9,25,26]) ?_
 refine oL_ (fun m st=>∃(z run N:Int) (L C:Nat) (O:List EV),st=⟨mkT 207 [(2,.isl wn none wc),(3,.ptr 0 0),(4,.ptr 1 0),(7,.ptr 2 0),(8,.sl 1 3 0 L (some C)),(9,.lit (.int .i64 run)),(25,.lit (.int .i64 N)),(26,.lit (.int .i64 z))],
   [.blk [.lit (.string nm),.lit (.bool nul),.lit (.int .i64 k),.lit (.int .i64 w),.lit (.int .i64 i),.lit (.int .i64 ix),.isl kn none kc],.blk [.lit (.int .i64 len),.lit (.int .i64 ofs),.lit (.int .i64 nls),.isl nb none cb,.isl nk none ck,.isl nd none cd],.blk [.lit (.int .i64 k),.lit (.int .i64 w),.lit (.int .i64 i),.lit (.int .i64 ix),.isl kn none kc],.blk O]⟩/\N=len/\L=len.toNat/\m=(len-z).toNat/\0<=z/\z<=len/\O.length=len.toNat/\(∀j<z.toNat,O[j]?=some (Nx (wt (ofs.toNat+j))))/\clL O=true/\0<=run/\(k=20->run<=elen/\∀j<run.toNat,ee j<=ofs+z)) (fun m st hs' ih=>?_)
  ⟨0,0,_,_,_,_,rfl,by simp(disch:=omega)only[hA,Ba];omega,by simp(disch:=omega)only[hA,Ba],rfl,by omega,by omega,by rw[hA];exact(congrArg List.length (Ww _ _)).trans (List.length_replicate ..),fun j hj=>by simp at hj,by rw[hA];exact zCa _ _ rfl,by omega,fun e=>⟨h20.out e,fun j hj=>by simp at hj⟩⟩
 obtain⟨z,run,N,L,C,O,rfl,hN,hL,hm,hz1,hz2,hO,hOw,hOc,hr1,hr2⟩:=hs'
 replace hr2:=Hid.mk hr2
 have hst:Hid (∀x,z<len->(A.setl O (A.idx 0 z 1) [x]).length=len.toNat):=fun x hz=>by rw[hA,B3,Gn];simp;omega
 have hsl1:∀O' x,O'.length=len.toNat->z<len->List.take 1 (List.drop (A.idx 0 z 1) (A.setl O' (A.idx 0 z 1) [x]))=[x]:=fun O' x ho hz=>by
  rw[hA,B3,Gn,Nat.zero_add,Nat.mul_one,lA,List.drop_append,List.drop_eq_nil_of_le (by simp;omega),lK,Nat.min_eq_left (by omega)]
  simp
 have hr0:Hid (z<len->A.ib .add .i64 ofs z=((ofs.toNat+z.toNat:Nat):Int)):=fun hz=>by simp(disch:=omega)only[hA,Ba]<;>omega
 have hnN:z<len->∀h:EH,Tri Tryz.prog gs 99 [.agg [.lit (.string nm),.lit (.bool nul),.lit (.int .i64 k),.lit (.int .i64 w),.lit (.int .i64 i),.lit (.int .i64 ix),.isl kn none kc],.agg [.lit (.int .i64 len),.lit (.int .i64 ofs),.lit (.int .i64 nls),.isl nb none cb,.isl nk none ck,.isl nd none cd],.lit (.int .i64 (A.ib .add .i64 ofs z))] h fun v h'=>IsP (NR (ofs.toNat+z.toNat)=true) v/\h'=h:=fun hz h=>by
  rw[hr0.out hz];exact hnl _ (by omega) h
 have hnext:Hid (z<len->(A.ib .add .i64 z 1).toNat=z.toNat+1):=fun hz=>by simp(disch:=omega)only[hA,Ba];omega
 have hnxt:=fun(O2:List EV) (y run':Int) (hz:z<len) (h1:O2=A.setl O (A.idx 0 z 1) [.lit (.int .i64 y)]) (h2:(wt (ofs.toNat+z.toNat):Int)=y) (h3:0<=run') (h4:k=20->run'<=elen/\∀j<run'.toNat,ee j<=ofs+z)=>
  ih _ _ ⟨A.ib .add .i64 z 1,run',N,L,C,O2,rfl,hN,hL,rfl,by (simp(disch:=omega)only[hA,Ba]<;>omega),by (simp(disch:=omega)only[hA,Ba]<;>omega),by rw[h1];exact hst.out _ hz,fun j hj=>by
    rw[h1,zC9 hA O z _ (by omega),<-h2]
    rw[hnext.out hz]at hj;split
    ·rename_i e;rw[e];rfl
    ·exact hOw j (by omega),by rw[h1];exact V0 hA _ _ hOc,h3,fun e=>⟨(h4 e).1,fun j hj=>by
    have:=(h4 e).2 j hj;have e1:A.ib .add .i64 z 1=z+1:=by (simp(disch:=omega)only[hA,Ba]<;>omega)
    rw[e1];omega⟩⟩ (by (simp(disch:=omega)only[hA,Ba]<;>omega))
 have hwz:=hwa z.toNat
 have hofz:=Hid.mk fun e hz=>hoff.out e z.toNat hz
 have hunz:=Hid.mk fun e hz=>huna.out e z.toNat hz
 generalize hnr:NR (ofs.toNat+z.toNat)=nr at *
 with_reducible refine Be hA hd hQ 1 ?hk ?_
 case hk=>trivial
 conv=>arg 9;cbv
 try simp only[OK]
 repeat' first|(with_reducible refine OKK.loop ?_)|(with_reducible refine OKK.again ?_)|(with_reducible refine OKK.stopS (some 40) ?_)|(with_reducible refine OKK.stopO (some 40) ?_)|((with_reducible refine⟨fun hbr=>?_,fun hbr=>?_⟩)<;>(try simp(disch:=omega)only[hA,Ba,reduceCtorEq]at hbr)<;>(try (with_reducible exfalso;omega)))|((with_reducible refine Bd hA hd hQ 1 ?hk ?_);(case hk=>trivial);(conv=>arg 9;cbv);(try simp only[OK]))|((with_reducible refine Bp ?hn ?_);(case hn=>((simp(disch:=omega)only[hA,Ba])<;>omega)))|((with_reducible refine cO ?hg ?_);(case hg=>with_reducible exact Bb F99_ok);(refine tM (hnN (by omega) _) fun v hh hx=>?_);(obtain⟨⟨b,hv,hb⟩,he⟩:=hx;subst hv;subst he;cases b<;>simp(disch:=omega)only[bF,true_iff,false_iff,eq_self]at hb)<;>(try (with_reducible exfalso;omega)))|fail
 ·have hz:z<len:=by omega
  replace hwz:=Hid.mk (hwz (by assumption))
  have lz:=hsl1 O (.lit (.int .i64 16)) hO hz;have hrr:=hr0.out hz;obtain⟨R,hR⟩:∃R,R=ofs.toNat+z.toNat:=⟨_,rfl⟩;rw[<-hR]at hrr hofz hunz hwz;have hRi:(R:Int)=ofs+z:=by omega
  obtain⟨RR,hRR⟩:∃RR:Int->Int->Int->Prop,∀p q y,RR p q y↔(0<=p/\p<=q/\(p≠q->0<wn/\q<=W0.length)/\0<=y/\y<=200000000/\(wt R:Int)=y+(Ed W0 p.toNat q.toNat:Nat)):=⟨_,fun _ _ _=>Iff.rfl⟩
  obtain⟨RK,hRK⟩:∃RK:Int->Prop,∀r,RK r↔(0<=r/\(k=20->r<=elen/\∀j<r.toNat,ee j<=ofs+z)):=⟨_,fun _=>Iff.rfl⟩
  have hrk:=(hRK run).2 ⟨hr1,hr2.out⟩
  refine OKs.cut (fun st=>∃(p q y run':Int) (O2:List EV) (l:EH),(⟨GP (msk 207 [2,3,4,7,8,9,10,11,12,13,25,26]) st.t,st.h⟩:St)=⟨mkT 207 [(2,.isl wn none wc),(3,.ptr 0 0),(4,.ptr 1 0),(7,.ptr 2 0),(8,.sl 1 3 0 L (some C)),(9,.lit (.int .i64 run')),(10,.lit (.int .i64 z)),(11,.lit (.int .i64 (A.ib .add .i64 ofs z))),(12,.lit (.int .i64 p)),(13,.lit (.int .i64 q)),(25,.lit (.int .i64 N)),(26,.lit (.int .i64 z))],
   [.blk [.lit (.string nm),.lit (.bool nul),.lit (.int .i64 k),.lit (.int .i64 w),.lit (.int .i64 i),.lit (.int .i64 ix),.isl kn none kc],.blk [.lit (.int .i64 len),.lit (.int .i64 ofs),.lit (.int .i64 nls),.isl nb none cb,.isl nk none ck,.isl nd none cd],.blk [.lit (.int .i64 k),.lit (.int .i64 w),.lit (.int .i64 i),.lit (.int .i64 ix),.isl kn none kc],.blk O2]++l⟩/\O2=A.setl O (A.idx 0 z 1) [.lit (.int .i64 y)]/\RR p q y/\RK run') ?_ ?_
  rotate_left
  ·intro s' ⟨p,q,y,run',O2,l,hst',hO2,hRf,hKf⟩
   refine oK_ (msk 207 [2,3,4,7,8,9,10,11,12,13,25,26]) ?_;rw[hst'];have hO2c:clL O2=true:=by rw[hO2];exact V0 hA _ _ hOc
   refine OKs.mvE [0,1,2,3] [] (by rw[hρ];rfl) ⟨by decide,by simp[Bc]<;>omega,by simp⟩ (hn:=[.blk [.lit (.string nm),.lit (.bool nul),.lit (.int .i64 k),.lit (.int .i64 w),.lit (.int .i64 i),.lit (.int .i64 ix),.isl kn none kc],.blk [.lit (.int .i64 len),.lit (.int .i64 ofs),.lit (.int .i64 nls),.isl nb none cb,.isl nk none ck,.isl nd none cd],.blk [.lit (.int .i64 k),.lit (.int .i64 w),.lit (.int .i64 i),.lit (.int .i64 ix),.isl kn none kc],.blk O2]) (by
    show EO.blk _ :: .blk _ :: .blk _ :: .blk (mvL _ _ O2)::[]=_;rw[BR _ _ _ hO2c];rfl) ?_
   obtain⟨r1,r2,r3,r4,r5,r6⟩:=(hRR _ _ _).1 hRf;obtain⟨r7,r8⟩:=(hRK _).1 hKf;have hslc:=hsl p q r1 r2 (fun e=>by have:=r3 e;omega)
   obtain⟨sg,hsg⟩:∃l,l=(W0.drop p.toNat).take (q.toNat-p.toNat):=⟨_,rfl⟩
   have hsn:sg.length=q.toNat-p.toNat:=by
    rw[hsg,lK,lD]
    by_cases e:p=q
    ·subst e;omega
    ·have:=r3 e;omega
   have hsum:Ed W0 p.toNat q.toNat=BA sg:=by rw[hsg];rfl
   obtain⟨sn,hsn'⟩:∃n,n=q.toNat-p.toNat:=⟨_,rfl⟩;obtain⟨sc,hsc⟩:∃c,c=(CN W0).drop p.toNat:=⟨_,rfl⟩;rw[<-hsn',<-hsc]at hslc;have hstep:=Lq sg;have hle:=JI sg;have hgle:=NI sg
   have hsgb:BA sg<=4194304:=by
    have a1:=JI (W0.drop p.toNat) (q.toNat-p.toNat);have a2:=Sk W0 p.toNat;have a3:=hW0b;rw[<-hsg]at a1;omega
   have hls:∀u:Nat,u<sn->List.take 1 (List.drop (0+u*1) sc)=[.lit (.int .i64 (sg.getD u 0:Nat))]:=fun u hu=>by
    rw[Nat.zero_add,Nat.mul_one,hsc,List.drop_drop,Iu W0 (p.toNat+u) (by
     by_cases e:p=q
     ·subst e;omega
     ·have:=r3 e;omega),hsg]
    simp[lG,List.getElem?_drop,show u<q.toNat-p.toNat by omega]
   have hsnb:sn<=4096:=by
    by_cases e:p=q
    ·subst e;omega
    ·have:=r3 e;omega
   clear r3 hst' hRf hKf
   with_reducible refine Be hA hd hQ 200 ?hk ?_
   case hk=>trivial
   conv=>arg 9;cbv
   try simp only[OK]
   repeat' first|(with_reducible refine OKK.loop ?_)|(with_reducible refine OKK.again ?_)|((with_reducible refine⟨fun hbr=>?_,fun hbr=>?_⟩)<;>(try simp(disch:=omega)only[hA,OK,Ba,Int.reduceToNat,Db,DT,reduceCtorEq]at hbr)<;>(try (with_reducible exfalso;omega)))|((with_reducible refine Bd hA hd hQ 200 ?hk ?_);(case hk=>trivial);(conv=>arg 9;cbv);(try simp only[OK]))|((with_reducible refine Bp ?hn ?_);(case hn=>((simp(disch:=omega)only[hA,OK,Ba,Int.reduceToNat,Db,DT])<;>omega)))|((with_reducible refine cO ?hg ?_);(case hg=>with_reducible exact Bb F101_ok);(refine tM (hslc _) fun v hh hx=>?_);(obtain⟨hv,hh'⟩:=hx;subst hv;subst hh'))|fail
   refine oK_ (msk 207 [2,3,4,7,8,9,10,25,26,191,192,193]) ?_
   refine oL_ (fun m st=>∃(u Nn y2:Int) (O2:List EV),st=⟨mkT 207 [(2,.isl wn none wc),(3,.ptr 0 0),(4,.ptr 1 0),(7,.ptr 2 0),(8,.sl 1 3 0 L (some C)),(9,.lit (.int .i64 run')),(10,.lit (.int .i64 z)),(25,.lit (.int .i64 N)),(26,.lit (.int .i64 z)),(191,.isl sn none sc),(192,.lit (.int .i64 Nn)),(193,.lit (.int .i64 u))],
    [.blk [.lit (.string nm),.lit (.bool nul),.lit (.int .i64 k),.lit (.int .i64 w),.lit (.int .i64 i),.lit (.int .i64 ix),.isl kn none kc],.blk [.lit (.int .i64 len),.lit (.int .i64 ofs),.lit (.int .i64 nls),.isl nb none cb,.isl nk none ck,.isl nd none cd],.blk [.lit (.int .i64 k),.lit (.int .i64 w),.lit (.int .i64 i),.lit (.int .i64 ix),.isl kn none kc],.blk O2]⟩/\Nn=sn/\O2=A.setl O (A.idx 0 z 1) [.lit (.int .i64 y2)]/\y2=y+(BA (sg.take u.toNat):Nat)/\m=(sn-u).toNat/\0<=u/\u<=sn) (fun m st hs' ih=>?_) ⟨0,_,y,O2,rfl,by rw[hA];rfl,hO2,by simp[BA],rfl,by omega,by omega⟩
   obtain⟨u,Nn,y2,O2,rfl,hNn,hO2,hy2,hm2,hu1,hu2⟩:=hs';have lz2:List.take 1 (List.drop (A.idx 0 z 1) O2)=[.lit (.int .i64 y2)]:=by rw[hO2];exact hsl1 O _ hO hz
   have lsu:Hid (u<sn->List.take 1 (List.drop (A.idx 0 u 1) sc)=[.lit (.int .i64 (sg.getD u.toNat 0:Nat))]):=fun hu=>by rw[hA];exact hls u.toNat (by omega)
   have hO2l:O2.length=len.toNat:=by rw[hO2];exact hst.out _ hz
   have b1:=hle u.toNat;have b2:=hgle u.toNat;have b3:Hid (u<sn->BA (sg.take (u.toNat+1))=BA (sg.take u.toNat)+sg.getD u.toNat 0):=fun hu=>hstep _ (by omega)
   obtain⟨gu,hgu⟩:∃g:Int,g=(sg.getD u.toNat 0:Nat):=⟨_,rfl⟩;rw[<-hgu]at lsu
   with_reducible refine Be hA hd hQ 200 ?hk ?_
   case hk=>trivial
   conv=>arg 9;cbv
   try simp only[OK]
   repeat' first|(with_reducible refine OKK.loop ?_)|(with_reducible refine OKK.again ?_)|((with_reducible refine⟨fun hbr=>?_,fun hbr=>?_⟩)<;>(try simp(disch:=omega)only[hA,Ba]at hbr)<;>(try (with_reducible exfalso;omega)))|((with_reducible refine Bd hA hd hQ 200 ?hk ?_);(case hk=>trivial);(conv=>arg 9;cbv);(try simp only[OK]))|((with_reducible refine Bp ?hn ?_);(case hn=>((simp(disch:=omega)only[hA,Ba])<;>omega)))|((refine⟨_,_,?l1,(lsu.out (by omega)),rfl,?_⟩);(case l1=>exact rfl))|((refine⟨_,_,?l1,lz2,rfl,?_⟩);(case l1=>exact rfl))|fail
   ·refine oK_ (msk 207 [2,3,4,7,8,9,10,25,26,191,192,193]) (ih _ _ ⟨A.ib .add .i64 u 1,Nn,A.ib .add .i64 y2 gu,_,rfl,hNn,?_,?_,rfl,?_,?_⟩ ?_)
    ·rw[hO2]
     exact Gw hA O z _ _ (by omega)
    ·have e1:(A.ib .add .i64 u 1).toNat=u.toNat+1:=by simp(disch:=omega)only[hA,Ba];omega
     have b4:=b3.out (by omega)
     rw[e1,b4];simp(disch:=omega)only[hA,Ba];omega
    ·simp(disch:=omega)only[hA,Ba];omega
    ·simp(disch:=omega)only[hA,Ba];omega
    ·simp(disch:=omega)only[hA,Ba];omega
   ·have e1:sg.take u.toNat=sg:=lT (by omega)
    rw[e1]at hy2;exact oK_ (msk 207 [2,3,4,7,8,9,25,26]) (hnxt O2 y2 run' hz hO2 (by rw[<-hR,r6,hsum,hy2]) r7 r8)
  obtain⟨B1,hB1⟩:∃b,b=isB (d.buf 1):=⟨_,rfl⟩;have lb1:Hid (k=12\/k=13\/k=15\/k=18->List.take 1 (List.drop (A.idx 0 1 1) cb)=[B1]):=fun e=>by rw[hA,hB1];exact lB1.out (by have:=(hb1.out e).1;omega)
  obtain⟨X1,hX1⟩:∃x,x=Bt d R:=⟨_,rfl⟩;obtain⟨X2,hX2⟩:∃x,x=Bt d (R+1):=⟨_,rfl⟩
  have hsA:k=12\/k=13\/k=15\/k=18->∀h:EH,Tri Tryz.prog gs 98 [B1,.lit (.int .i64 (A.ib .add .i64 ofs z))] h fun v h'=>v = .lit (.int .i64 X1)/\h'=h:=fun e h=>by
   rw[hrr,hX1,hB1];obtain⟨a1,a2,a3,a4,a5⟩:=hb1.out e;exact Ip _ _ a2 a3 (by omega) h
  have hsB:k=12\/k=13\/k=15->∀h:EH,Tri Tryz.prog gs 98 [B1,.lit (.int .i64 (A.ib .add .i64 (A.ib .add .i64 ofs z) 1))] h fun v h'=>v = .lit (.int .i64 X2)/\h'=h:=fun e h=>by
   rw[show A.ib .add .i64 (A.ib .add .i64 ofs z) 1=((R+1:Nat):Int) by rw[hrr];simp(disch:=omega)only[hA,Ba]<;>omega,hX2,hB1]
   obtain⟨a1,a2,a3,a4,a5⟩:=hb1.out (by omega)
   have:=a5 (by omega)
   exact Ip _ _ a2 a3 (by omega) h
  obtain⟨n0,hn0⟩:∃n,n=(d.buf 0).length:=⟨_,rfl⟩;obtain⟨c0,hc0⟩:∃n,n=Br (d.buf 0):=⟨_,rfl⟩;obtain⟨cR,hcR⟩:∃n,n=(d.buf 0).getD R 0:=⟨_,rfl⟩;obtain⟨c,hc⟩:∃n:Int,n=cR:=⟨_,rfl⟩;have lb0:Hid (k=18->List.take 1 (List.drop (A.idx 0 0 1) cb)=[.isl n0 none c0]):=fun e=>by rw[hA,hn0,hc0];exact lB0.out (by have:=(hb1.out (by omega)).1;omega)
  have lc:Hid (k=18->List.take 1 (List.drop (A.idx 0 (A.ib .add .i64 ofs z) 1) c0)=[.lit (.int .u8 c)]):=fun e=>by
   rw[hrr,hA,hc0,hc,hcR,B3,Nat.zero_add,Nat.mul_one];exact DO _ R (by have:=(hb0.out e).2.2;omega)
  obtain⟨nC,hnC⟩:∃n,n=(W.getD cR []).length:=⟨_,rfl⟩;obtain⟨cC,hcC⟩:∃n,n=CN (W.getD cR []):=⟨_,rfl⟩;obtain⟨E18,hE18⟩:∃n:Int,n=((W.getD cR []).getD X1.toNat 0:Nat):=⟨_,rfl⟩
  have hun:Hid (k=18->c<wn/\0<=X1/\X1<nC):=fun e=>by
   have:=hunz.out e (by omega)
   rw[<-hcR,<-hX1,<-hnC]at this;omega
  have lW18:Hid (k=18->List.take 1 (List.drop (A.idx 0 c 1) wc)=[.isl nC none cC]):=fun e=>by
   have:=hun.out e;rw[hA,<-hwc,hnC,hcC,hc,B3,Nat.zero_add,Nat.mul_one];exact JC W cR (by omega)
  have lE18:Hid (k=18->List.take 1 (List.drop (A.idx 0 X1 1) cC)=[.lit (.int .i64 E18)]):=fun e=>by
   have:=hun.out e;rw[hA,hcC,hE18,B3,Nat.zero_add,Nat.mul_one];exact Iu _ X1.toNat (by omega)
  obtain⟨n00,hn00⟩:∃n,n=W0.length:=⟨_,rfl⟩;obtain⟨c00,hc00⟩:∃n,n=CN W0:=⟨_,rfl⟩;obtain⟨IX,hIX⟩:∃n:Int,n=CP ix d R:=⟨_,rfl⟩;obtain⟨E19,hE19⟩:∃n:Int,n=(W0.getD IX.toNat 0:Nat):=⟨_,rfl⟩
  have hdi:Hid (k=19->0<wn/\0<=IX/\IX<n00):=fun e=>by
   obtain⟨a1,a2,a3,a4,a5,a6,a7,a8⟩:=hdic.out e;rcases a8 z.toNat (by omega)with h8|h8
   ·rw[<-e,hNR,hnr]at h8
    exact absurd h8 (by assumption)
   ·rw[<-hR,<-hIX,<-hn00]at h8
    omega
  have lW0:Hid (k=19->List.take 1 (List.drop (A.idx 0 0 1) wc)=[.isl n00 none c00]):=fun e=>by
   have:=hdi.out e;rw[hA,<-hwc,hn00,hc00,<-hW0];exact JC W 0 (by omega)
  have hix:k=19->∀h:EH,Tri Tryz.prog gs 100 [.agg [.lit (.string nm),.lit (.bool nul),.lit (.int .i64 k),.lit (.int .i64 w),.lit (.int .i64 i),.lit (.int .i64 ix),.isl kn none kc],.agg [.lit (.int .i64 len),.lit (.int .i64 ofs),.lit (.int .i64 nls),.isl nb none cb,.isl nk none ck,.isl nd none cd],.lit (.int .i64 (A.ib .add .i64 ofs z))] h fun v h'=>v = .lit (.int .i64 IX)/\h'=h:=fun e h=>by
   rw[hrr,hIX];exact hixc e R (by omega) h
  have lE19:Hid (k=19->List.take 1 (List.drop (A.idx 0 IX 1) c00)=[.lit (.int .i64 E19)]):=fun e=>by
   have:=hdi.out e;rw[hA,hc00,hE19,B3,Nat.zero_add,Nat.mul_one];exact Iu _ IX.toNat (by omega)
  have hm1:Hid (k=16->stdA.ib .mul .i64 (ofs+z) w=(ofs+z)*w/\stdA.ib .mul .i64 (ofs+z+1) w=(ofs+z+1)*w/\0<=(ofs+z)*w/\(ofs+z)*w<=(ofs+z+1)*w/\(ofs+z+1)*w<=n00/\0<wn/\((ofs+z)*w).toNat=R*w.toNat/\((ofs+z+1)*w).toNat=(R+1)*w.toNat):=fun e=>by
   obtain⟨f1,f2⟩:=hfit.out.2.1 e;obtain⟨s1,s2⟩:=hspn.out e;have m1:0<=(ofs+z)*w:=Int.mul_nonneg (by omega) (by omega)
   have m2:(ofs+z+1)*w<=(ofs+len)*w:=Int.mul_le_mul_of_nonneg_right (by omega) (by omega)
   have m3:(ofs+z)*w<=(ofs+z+1)*w:=Int.mul_le_mul_of_nonneg_right (by omega) (by omega)
   have m4:(ofs+len)*w<=4096*64:=Int.mul_le_mul (by omega) (by omega) (by omega) (by omega)
   refine⟨Dq _ _ (by omega) (by omega),Dq _ _ (by omega) (by omega),m1,m3,by rw[hn00];omega,s1,?_,?_⟩
   ·rw[<-hRi,Int.toNat_mul (by omega) (by omega)];rfl
   ·rw[show ofs+z+1=((R+1:Nat):Int) by omega,Int.toNat_mul (by omega) (by omega)];rfl
  have hsg0:Ed W0 (0:Int).toNat (0:Int).toNat=0:=by simp[Ed,BA]
  have lk20:Hid (k=20->List.take 6 (List.drop (A.idx 0 0 6) ck)=[.lit (.int .i64 elen),.lit (.int .i64 eofs),.lit (.int .i64 enls),.isl enb none ecb,.isl enk none eck,.isl en none ecd]):=fun e=>by rw[hA];exact g20.out e
  have le20:Hid (k=20->List.take 1 (List.drop (A.idx 0 1 1) ecb)=[EB]):=fun e=>by rw[hA];exact he1.out e
  obtain⟨n11,hn11⟩:∃n,n=(W.getD 1 []).length:=⟨_,rfl⟩;obtain⟨c11,hc11⟩:∃n,n=CN (W.getD 1 []):=⟨_,rfl⟩;have hw2:Hid (k=20->wn=2/\elen=n11):=fun e=>⟨(hrun.out e).1,by rw[hn11,hel];exact(hrun.out e).2.2.2.1⟩
  have lW1:Hid (k=20->List.take 1 (List.drop (A.idx 0 1 1) wc)=[.isl n11 none c11]):=fun e=>by
   have:=hw2.out e;rw[hA,<-hwc,hn11,hc11];exact JC W 1 (by omega)
  with_reducible refine Be hA hd hQ 200 ?hk ?_
  case hk=>trivial
  conv=>arg 9;cbv
  try simp only[OK]
  repeat' first|(with_reducible refine OKK.loop ?_)|(with_reducible refine OKK.again ?_)|(with_reducible refine And.intro trivial ?_)|((with_reducible refine⟨fun hbr=>?_,fun hbr=>?_⟩)<;>(try simp(disch:=omega)only[hA,Ba]at hbr)<;>(try (with_reducible exfalso;omega)))|((with_reducible refine Bd hA hd hQ 200 ?hk ?_);(case hk=>trivial);(conv=>arg 9;cbv);(try simp only[OK]))|((with_reducible refine Bp ?hn ?_);(case hn=>((simp(disch:=omega)only[hA,Ba,zBX])<;>omega)))|((refine⟨_,_,?l1,lz,rfl,?_⟩);(case l1=>exact rfl))|((refine⟨_,_,?l1,(lb1.out (by omega)),rfl,?_⟩);(case l1=>exact rfl))|((refine⟨_,_,?l1,(lb0.out (by omega)),rfl,?_⟩);(case l1=>exact rfl))|((refine⟨_,_,?l1,(lc.out (by omega)),rfl,?_⟩);(case l1=>exact rfl))|((refine⟨_,_,?l1,(lW18.out (by omega)),rfl,?_⟩);(case l1=>exact rfl))|((refine⟨_,_,?l1,(lE18.out (by omega)),rfl,?_⟩);(case l1=>exact rfl))|((refine⟨_,_,?l1,(lW0.out (by omega)),rfl,?_⟩);(case l1=>exact rfl))|((refine⟨_,_,?l1,(lE19.out (by omega)),rfl,?_⟩);(case l1=>exact rfl))|((refine⟨_,_,?l1,(lk20.out (by omega)),rfl,?_⟩);(case l1=>exact rfl))|((with_reducible refine Bp ?hn ?_);(case hn=>(have hneed:=(hb1.out (by omega)).1;(simp(disch:=omega)only[hA,Ba])<;>omega)))|((with_reducible refine Bp ?hn ?_);(case hn=>(have hneed:=(hb0.out (by omega)).2.2;(simp(disch:=omega)only[hA,Ba])<;>omega)))|((with_reducible refine Bp ?hn ?_);(case hn=>(have hneed:=(hun.out (by omega));(simp(disch:=omega)only[hA,Ba])<;>omega)))|((with_reducible refine Bp ?hn ?_);(case hn=>(have hneed:=(hdi.out (by omega));(simp(disch:=omega)only[hA,Ba])<;>omega)))|((with_reducible refine Bp ?hn ?_);(case hn=>(have hneed:=(hk2.out (by omega));(simp(disch:=omega)only[hA,Ba])<;>omega)))|((with_reducible refine cO ?hg ?_);(case hg=>with_reducible exact Bb F98_ok);(refine tM (hsA (by omega) _) fun v hh hx=>?_);(obtain⟨hv,hh'⟩:=hx;subst hv;subst hh'))|((with_reducible refine cO ?hg ?_);(case hg=>with_reducible exact Bb F98_ok);(refine tM (hsB (by omega) _) fun v hh hx=>?_);(obtain⟨hv,hh'⟩:=hx;subst hv;subst hh'))|((with_reducible refine cO ?hg ?_);(case hg=>with_reducible exact Bb F100_ok);(refine tM (hix (by omega) _) fun v hh hx=>?_);(obtain⟨hv,hh'⟩:=hx;subst hv;subst hh'))|(refine⟨⟨_,rfl,lz,rfl⟩,?_⟩)|(refine⟨⟨_,rfl,lW18.out (by omega),rfl⟩,?_⟩)|(refine⟨⟨_,rfl,lc.out (by omega),rfl⟩,?_⟩)|(refine⟨⟨_,rfl,lb0.out (by omega),rfl⟩,?_⟩)|(refine⟨⟨_,rfl,lW0.out (by omega),rfl⟩,?_⟩)|fail
  ·have e:=hwz.out.1 (by omega)
   have f14:=hfit.out.1 (by omega)
   refine⟨_,_,_,_,_,[],rfl,Gw hA O z _ _ (by omega),(hRR _ _ _).2 ⟨by omega,by omega,by omega,?_,?_,?_⟩,hrk⟩
   ·simp(disch:=omega)only[hA,Ba];omega
   ·simp(disch:=omega)only[hA,Ba];omega
   ·rw[e,hsg0];simp(disch:=omega)only[hA,Ba];omega
  ·have e:=hwz.out.2.1 (by omega)
   obtain⟨o1,o2,o3,o4⟩:=hofz.out (by omega) (by omega)
   rw[<-hX1,<-hX2]at *;refine⟨_,_,_,_,_,[],rfl,Gw hA O z _ _ (by omega),(hRR _ _ _).2 ⟨by omega,by omega,by omega,?_,?_,?_⟩,hrk⟩
   ·simp(disch:=omega)only[hA,Ba];omega
   ·simp(disch:=omega)only[hA,Ba];omega
   ·rw[e,hsg0];simp(disch:=omega)only[hA,Ba];omega
  ·have e:=hwz.out.2.1 (by omega)
   obtain⟨o1,o2,o3,o4⟩:=hofz.out (by omega) (by omega)
   rw[<-hX1,<-hX2]at *;refine⟨_,_,_,_,_,[],rfl,Gw hA O z _ _ (by omega),(hRR _ _ _).2 ⟨by omega,by omega,by omega,?_,?_,?_⟩,hrk⟩
   ·simp(disch:=omega)only[hA,Ba];omega
   ·simp(disch:=omega)only[hA,Ba];omega
   ·rw[e,hsg0];simp(disch:=omega)only[hA,Ba];omega
  ·have e:=hwz.out.2.2.1 (by omega)
   obtain⟨o1,o2,o3,o4⟩:=hofz.out (by omega) (by omega)
   rw[<-hX1,<-hX2]at *;have o5:=o4 (by omega)
   refine⟨_,_,_,_,_,[],rfl,rfl,(hRR _ _ _).2 ⟨by omega,by omega,by omega,by omega,by omega,?_⟩,hrk⟩
   rw[e];omega
  ·have e:=hwz.out.2.2.2.1 (by omega)
   obtain⟨m1,m2,m3,m4,m5,m6,m7,m8⟩:=hm1.out (by omega)
   refine⟨_,_,_,_,_,[],rfl,rfl,(hRR _ _ _).2 ⟨?_,?_,?_,by omega,by omega,?_⟩,hrk⟩
   ·simp(disch:=omega)only[hA,Ba,m1];omega
   ·simp(disch:=omega)only[hA,Ba,m1,m2];omega
   ·simp(disch:=omega)only[hA,Ba,m1,m2];omega
   ·rw[e];simp(disch:=omega)only[hA,Ba,m1,m2,m7,m8];omega
  ·obtain⟨SC,hSC⟩:∃SC:Nat->Nat,∀n,SC n=BA ((W.map fun l=>l.getD R 0).take n):=⟨_,fun _=>rfl⟩
   have hSC1:∀n<wn,SC (n+1)=SC n+(W.getD n []).getD R 0:=fun n hn=>by
    rw[hSC,hSC,Lq _ n (by rw[List.length_map];omega)]
    congr 1;rw[lG,List.getElem?_map,lG (l:=W),lE (show n<W.length by omega)]
    rfl
   have hSC0:SC 0=0:=by rw[hSC];simp[BA]
   have hSCw:SC wn=BA (W.map fun l=>l.getD R 0):=by rw[hSC,lT (by rw[List.length_map];omega)]
   have e:=hwz.out.2.2.2.2.1 (by omega)
   rw[<-hSCw]at e;clear hSC hSCw;refine oK_ (msk 207 [2,3,4,7,8,9,10,11,12,13,25,26,103,104,105]) ?_
   refine oL_ (fun m st=>∃(u Nn y2:Int) (O2:List EV),st=⟨mkT 207 [(2,.isl wn none wc),(3,.ptr 0 0),(4,.ptr 1 0),(7,.ptr 2 0),(8,.sl 1 3 0 L (some C)),(9,.lit (.int .i64 run)),(10,.lit (.int .i64 z)),(11,.lit (.int .i64 (A.ib .add .i64 ofs z))),(12,.lit (.int .i64 0)),(13,.lit (.int .i64 0)),(25,.lit (.int .i64 N)),(26,.lit (.int .i64 z)),(103,.isl wn none wc),(104,.lit (.int .i64 Nn)),(105,.lit (.int .i64 u))],
    [.blk [.lit (.string nm),.lit (.bool nul),.lit (.int .i64 k),.lit (.int .i64 w),.lit (.int .i64 i),.lit (.int .i64 ix),.isl kn none kc],.blk [.lit (.int .i64 len),.lit (.int .i64 ofs),.lit (.int .i64 nls),.isl nb none cb,.isl nk none ck,.isl nd none cd],.blk [.lit (.int .i64 k),.lit (.int .i64 w),.lit (.int .i64 i),.lit (.int .i64 ix),.isl kn none kc],.blk O2]⟩/\Nn=wn/\O2=A.setl O (A.idx 0 z 1) [.lit (.int .i64 y2)]/\y2=16+(SC u.toNat:Nat)/\y2<=16+4194304*u/\m=(wn-u).toNat/\0<=u/\u<=wn) (fun m st hs' ih=>?_) ⟨0,_,16,_,rfl,by rw[hA];rfl,rfl,by rw[show (0:Int).toNat=0 from rfl,hSC0];rfl,by omega,rfl,by omega,by omega⟩
   obtain⟨u,Nn,y2,O2,rfl,hNn,hO2,hy2,hyb,hm2,hu1,hu2⟩:=hs';have lz2:List.take 1 (List.drop (A.idx 0 z 1) O2)=[.lit (.int .i64 y2)]:=by rw[hO2];exact hsl1 O _ hO hz
   have hO2l:O2.length=len.toNat:=by rw[hO2];exact hst.out _ hz
   obtain⟨nU,hnU⟩:∃n,n=(W.getD u.toNat []).length:=⟨_,rfl⟩;obtain⟨cU,hcU⟩:∃n,n=CN (W.getD u.toNat []):=⟨_,rfl⟩;obtain⟨gU,hgU⟩:∃n:Int,n=((W.getD u.toNat []).getD R 0:Nat):=⟨_,rfl⟩;have hgb:=hbd u.toNat R
   have lU:Hid (u<wn->List.take 1 (List.drop (A.idx 0 u 1) wc)=[.isl nU none cU]):=fun hu=>by
    rw[hA,<-hwc,hnU,hcU,B3,Nat.zero_add,Nat.mul_one];exact JC W u.toNat (by omega)
   have nUb:Hid (u<wn->ofs+len<=nU):=fun hu=>by
    rw[hnU];exact hstr.out (by omega) _ (by rw[lG,lE (show u.toNat<W.length by omega)];exact List.getElem_mem _)
   have lG:Hid (u<wn->List.take 1 (List.drop (A.idx 0 (A.ib .add .i64 ofs z) 1) cU)=[.lit (.int .i64 gU)]):=fun hu=>by
    have:=nUb.out hu;rw[hrr,hA,hcU,hgU,B3,Nat.zero_add,Nat.mul_one];exact Iu _ R (by omega)
   have hSC2:Hid (u<wn->SC (u.toNat+1)=SC u.toNat+(W.getD u.toNat []).getD R 0):=fun hu=>hSC1 u.toNat (by omega)
   with_reducible refine Be hA hd hQ 200 ?hk ?_
   case hk=>trivial
   conv=>arg 9;cbv
   try simp only[OK]
   repeat' first|(with_reducible refine OKK.loop ?_)|(with_reducible refine OKK.again ?_)|(with_reducible refine And.intro trivial ?_)|((with_reducible refine⟨fun hbr=>?_,fun hbr=>?_⟩)<;>(try simp(disch:=omega)only[hA,Ba]at hbr)<;>(try (with_reducible exfalso;omega)))|((with_reducible refine Bd hA hd hQ 200 ?hk ?_);(case hk=>trivial);(conv=>arg 9;cbv);(try simp only[OK]))|((with_reducible refine Bp ?hn ?_);(case hn=>((simp(disch:=omega)only[hA,Ba])<;>omega)))|((refine⟨_,_,?l1,(lU.out (by omega)),rfl,?_⟩);(case l1=>exact rfl))|((refine⟨_,_,?l1,(lG.out (by omega)),rfl,?_⟩);(case l1=>exact rfl))|((refine⟨_,_,?l1,lz2,rfl,?_⟩);(case l1=>exact rfl))|((with_reducible refine Bp ?hn ?_);(case hn=>(have hneed:=(nUb.out (by omega));(simp(disch:=omega)only[hA,Ba])<;>omega)))|(refine⟨⟨_,rfl,lz2,rfl⟩,?_⟩)|fail
   ·refine oK_ (msk 207 [2,3,4,7,8,9,10,11,12,13,25,26,103,104,105]) (ih _ _ ⟨A.ib .add .i64 u 1,Nn,A.ib .add .i64 y2 gU,_,rfl,hNn,?_,?_,?_,rfl,?_,?_⟩ ?_)
    ·rw[hO2]
     exact Gw hA O z _ _ (by omega)
    ·have e1:(A.ib .add .i64 u 1).toNat=u.toNat+1:=by simp(disch:=omega)only[hA,Ba];omega
     have b4:=hSC2.out (by omega)
     rw[e1,b4];simp(disch:=omega)only[hA,Ba];omega
    ·simp(disch:=omega)only[hA,Ba];omega
    ·simp(disch:=omega)only[hA,Ba];omega
    ·simp(disch:=omega)only[hA,Ba];omega
    ·simp(disch:=omega)only[hA,Ba];omega
   ·have e2:u.toNat=wn:=by omega
    rw[e2]at hy2;refine⟨_,_,_,_,_,[],rfl,hO2,(hRR _ _ _).2 ⟨by omega,by omega,by omega,by omega,by omega,?_⟩,hrk⟩
    rw[e,hsg0];omega
  ·have e:=hwz.out.2.2.2.2.2.1 (by omega)
   have hbE:=hbd cR X1.toNat;rw[<-hcR,<-hX1]at e;refine⟨_,_,_,_,_,[],rfl,Gw hA O z _ _ (by omega),(hRR _ _ _).2 ⟨by omega,by omega,by omega,?_,?_,?_⟩,hrk⟩
   ·simp(disch:=omega)only[hA,Ba];omega
   ·simp(disch:=omega)only[hA,Ba];omega
   ·rw[e,hsg0];simp(disch:=omega)only[hA,Ba];omega
  ·have e:=hwz.out.2.2.2.2.2.2.1 (by omega)
   have hbE:=hbd 0 IX.toNat;rw[hW0]at hbE;rw[<-hIX]at e;refine⟨_,_,_,_,_,[],rfl,Gw hA O z _ _ (by omega),(hRR _ _ _).2 ⟨by omega,by omega,by omega,by omega,by omega,?_⟩,hrk⟩
   rw[e,hsg0];omega
  ·have e:=hwz.out.2.2.2.2.2.2.2.1 (by omega)
   have w2:=hw2.out (by omega)
   have eo:=heo.out (by omega)
   have eb:=he2.out (by omega)
   refine oK_ (msk 207 [2,3,4,7,8,9,10,11,12,13,16,25,26]) ?_
   refine oL_ (fun m st=>∃(u:Int) (O2:List EV),st=⟨mkT 207 [(2,.isl wn none wc),(3,.ptr 0 0),(4,.ptr 1 0),(7,.ptr 2 0),(8,.sl 1 3 0 L (some C)),(9,.lit (.int .i64 u)),(10,.lit (.int .i64 z)),(11,.lit (.int .i64 (A.ib .add .i64 ofs z))),(12,.lit (.int .i64 0)),(13,.lit (.int .i64 0)),(16,.ptr 4 0),(25,.lit (.int .i64 N)),(26,.lit (.int .i64 z))],
    [.blk [.lit (.string nm),.lit (.bool nul),.lit (.int .i64 k),.lit (.int .i64 w),.lit (.int .i64 i),.lit (.int .i64 ix),.isl kn none kc],.blk [.lit (.int .i64 len),.lit (.int .i64 ofs),.lit (.int .i64 nls),.isl nb none cb,.isl nk none ck,.isl nd none cd],.blk [.lit (.int .i64 k),.lit (.int .i64 w),.lit (.int .i64 i),.lit (.int .i64 ix),.isl kn none kc],.blk O2,.blk [.lit (.int .i64 elen),.lit (.int .i64 eofs),.lit (.int .i64 enls),.isl enb none ecb,.isl enk none eck,.isl en none ecd]]⟩/\O2=A.setl O (A.idx 0 z 1) [.lit (.int .i64 16)]/\m=(elen-u).toNat/\RK u) (fun m st hs' ih=>?_) ⟨run,_,rfl,rfl,rfl,hrk⟩
   obtain⟨u,O2,rfl,hO2,hm2,hu⟩:=hs';obtain⟨u1,u2⟩:=(hRK u).1 hu;obtain⟨u3,u4⟩:=u2 (by omega)
   clear u2;have hO2l:O2.length=len.toNat:=by rw[hO2];exact hst.out _ hz
   have hult:=hstop.out (by omega) R u.toNat (by omega) (by omega) (fun j hj=>by have:=u4 j hj;omega)
   have hsgn:∀h:EH,Tri Tryz.prog gs 98 [EB,.lit (.int .i64 (A.ib .add .i64 eofs u))] h fun v h'=>v = .lit (.int .i64 (ee u.toNat))/\h'=h:=fun h=>by
    rw[show A.ib .add .i64 eofs u=((eofs.toNat+u.toNat:Nat):Int) by simp(disch:=omega)only[hA,Ba]<;>omega]
    exact hse.out (by omega) u.toNat (by omega) h
   obtain⟨E20,hE20⟩:∃n:Int,n=((W.getD 1 []).getD u.toNat 0:Nat):=⟨_,rfl⟩;have hbE:=hbd 1 u.toNat
   have lE20:List.take 1 (List.drop (A.idx 0 u 1) c11)=[.lit (.int .i64 E20)]:=by
    rw[hA,hc11,hE20,B3,Nat.zero_add,Nat.mul_one];exact Iu _ u.toNat (by omega)
   generalize hEU:ee u.toNat=EU at *
   with_reducible refine Be hA hd hQ 200 ?hk ?_
   case hk=>trivial
   conv=>arg 9;cbv
   try simp only[OK]
   repeat' first|(with_reducible refine OKK.loop ?_)|(with_reducible refine OKK.again ?_)|((with_reducible refine⟨fun hbr=>?_,fun hbr=>?_⟩)<;>(try simp(disch:=omega)only[hA,Ba]at hbr)<;>(try (with_reducible exfalso;omega)))|((with_reducible refine Bd hA hd hQ 200 ?hk ?_);(case hk=>trivial);(conv=>arg 9;cbv);(try simp only[OK]))|((with_reducible refine Bp ?hn ?_);(case hn=>((simp(disch:=omega)only[hA,Ba])<;>omega)))|((refine⟨_,_,?l1,(le20.out (by omega)),rfl,?_⟩);(case l1=>exact rfl))|((refine⟨_,_,?l1,(lW1.out (by omega)),rfl,?_⟩);(case l1=>exact rfl))|((refine⟨_,_,?l1,lE20,rfl,?_⟩);(case l1=>exact rfl))|((with_reducible refine cO ?hg ?_);(case hg=>with_reducible exact Bb F98_ok);(refine tM (hsgn _) fun v hh hx=>?_);(obtain⟨hv,hh'⟩:=hx;subst hv;subst hh'))|fail
   ·refine oK_ (msk 207 [2,3,4,7,8,9,10,11,12,13,16,25,26]) (ih _ _ ⟨A.ib .add .i64 u 1,O2,rfl,hO2,rfl,(hRK _).2 ⟨?_,fun _=>⟨?_,fun j hj=>?_⟩⟩⟩ ?_)
    ·simp(disch:=omega)only[hA,Ba];omega
    ·simp(disch:=omega)only[hA,Ba];omega
    ·have e1:(A.ib .add .i64 u 1).toNat=u.toNat+1:=by simp(disch:=omega)only[hA,Ba];omega
     rw[e1]at hj;rcases Nat.lt_succ_iff_lt_or_eq.1 hj with h|h
     ·exact u4 j h
     ·rw[h,hEU];omega
    ·simp(disch:=omega)only[hA,Ba];omega
   ·have hq:=hrq.out R u.toNat (by omega) (by rw[hEU];omega) (fun j hj=>by have:=u4 j hj;omega)
    rw[hq]at e;refine⟨_,_,_,_,_,[_],rfl,by rw[hO2];exact Gw hA O z _ _ (by omega),(hRR _ _ _).2 ⟨by omega,by omega,by omega,by omega,by omega,?_⟩,hu⟩
    rw[e,hsg0];omega
  ·have e:=hwz.out.2.2.2.2.2.2.2.2 (by omega) (by omega) (by omega) (by omega) (by omega) (by omega) (by omega) (by omega) (by omega)
   refine⟨_,_,_,_,_,[],rfl,rfl,(hRR _ _ _).2 ⟨by omega,by omega,by omega,by omega,by omega,?_⟩,hrk⟩
   rw[e,hsg0];omega
 ·exact oK_ (msk 207 [2,3,4,7,8,9,25,26]) (hnxt _ 16 run (by omega) rfl (by rw[<-hwt,hwnull _ (by rw[hnr];assumption)];rfl) hr1 hr2.out)
 ·subst hL
  obtain rfl:O=CN ((List.range len.toNat).map fun j=>wt (ofs.toNat+j)):=by
   apply List.ext_getElem?;intro j
   by_cases hj:j<len.toNat
   ·rw[hOw j (by omega)]
    simp[CN,List.getElem?_range hj]
   ·rw[List.getElem?_eq_none (by omega),List.getElem?_eq_none (by simp[CN];omega)]
  exact fI_ rfl ⟨C,rfl,_,_,_,rfl⟩
structure szP (f:Fld) (d:Dat):Prop where
 len:Cn d
 nul:∀r,r<d.ofs.toNat+d.len.toNat->Dc f.kind d r
 big:∀j,j<d.bufs.length->(d.buf j).length<=65536/\AllB (d.buf j)
 nb:(d.bufs.length:Int)=Cc f.kind
 nk:d.kids.length=Dh f
 nd:(d.dict.length:Int)=DZ f
 need:needP f d d.bufs.length
 kid:kidP f d d.kids.length
 nls:Ix f d
theorem Vy{d:Dat}{j:Nat}(h:j<d.bufs.length):d.buf j∈d.bufs:=by
 unfold Dat.buf
 rw[lG,lE h]
 exact List.getElem_mem _
theorem szP.of{f:Fld}{d:Dat}(hok:okA d)(h:DD f d):szP f d:=by
 obtain⟨h1,h2,h3,h4,h5⟩:=h
 have hl:Cn d:=⟨h1.2.1.1,h1.2.1.2.1,h1.2.2.2.2⟩
 refine⟨hl,fun r hr hv=>?_,fun j hj=>⟨h2 j hj,(Nq hok (Vy hj)).2⟩,h1.1.1,h1.1.2.1,h1.1.2.2,h3,h4,h5⟩
 obtain⟨a1,a2,a3⟩:=hl
 have hb1:1<=d.bufs.length:=by
  have e1:=h1.1.1;obtain⟨v1,v2,v3⟩:=hv;unfold Cc at e1;rw[if_neg (by omega)]at e1
  (repeat' split at e1)<;>omega
 refine⟨List.length_pos_iff.1 (by omega),Nq hok (Vy hb1),h2 0 (by omega),fun hne=>?_⟩
 have e3:=h3 0 (by omega)
 unfold CS at e3
 rw[if_neg hv.2.1,if_neg (by omega),if_pos (by simp)]at e3
 omega
theorem R8(x:Int):D4 x=(Bk x:Nat):=by
 unfold D4 Bk
 repeat' split
 all_goals rfl
theorem szP.b1{f:Fld}{d:Dat}(h:szP f d)(hk:f.kind=12\/f.kind=13\/f.kind=15):2<=d.bufs.length/\4*(d.ofs+d.len+1)<=(d.buf 1).length:=by
 have e:=h.nb
 have e1:2<=d.bufs.length:=by unfold Cc at e;(repeat' split at e)<;>omega
 have e3:=h.need 1 (by omega)
 unfold CS at e3
 rw[if_neg (by omega),if_neg (by omega),if_neg (by omega),if_pos hk]at e3
 exact⟨e1,e3⟩
theorem szP.b18{f:Fld}{d:Dat}(h:szP f d)(hk:f.kind=18):d.bufs.length=2/\d.ofs+d.len<=(d.buf 0).length/\4*(d.ofs+d.len)<=(d.buf 1).length:=by
 have e:=h.nb
 have e1:d.bufs.length=2:=by rw[hk]at e;unfold Cc at e;simp at e;omega
 have e2:=h.need 0 (by omega)
 have e3:=h.need 1 (by omega)
 unfold CS at e2 e3
 rw[if_pos hk]at e2 e3
 omega
theorem szP.b19{f:Fld}{d:Dat}(h:szP f d)(hk:f.kind=19):d.bufs.length=2/\d.dict.length=1/\(d.ofs.toNat+d.len.toNat)*Bk f.idx<=(d.buf 1).length:=by
 have e:=h.nb
 have e1:d.bufs.length=2:=by rw[hk]at e;unfold Cc at e;simp at e;omega
 have e4:=h.nd
 unfold DZ at e4
 rw[if_pos hk]at e4
 have e3:=h.need 1 (by omega)
 unfold CS wid at e3
 rw[if_neg (by omega),if_neg (by omega),if_neg (by omega),if_neg (by omega),if_neg (by omega),if_pos hk,R8]at e3
 obtain⟨a1,a2,a3⟩:=h.len
 refine⟨e1,by omega,?_⟩
 have e5:d.ofs+d.len=((d.ofs.toNat+d.len.toNat:Nat):Int):=by omega
 rw[e5]at e3
 exact_mod_cast e3
theorem PJ{d:Dat}(h:okA d):GS d.dict/\GS d.kids/\d.kids.length<=140737488351232:=by
 obtain⟨a1,a2,a3,a4,a5,a6⟩:=d
 unfold okA at h
 exact⟨h.2.2.2.2.2.2.2.2,h.2.2.2.2.2.2.1,h.2.2.2.2.2.1⟩
theorem Jg:∀{l:List Dat},GS l->∀i,i<l.length->okA (l.getD i Bf)
 |[],_,i,h=>by simp at h
 |d::l,h,0,_=>h.1
 |d::l,h,i+1,hi=>Jg h.2 i (by simpa using hi)
theorem Vb{d:Dat}(h:okA d):BH d.len:=by
 obtain⟨a1,a2,a3,a4,a5,a6⟩:=d
 unfold okA at h
 exact h.1
def Ef(f:Fld)(d:Dat):Prop:=
 (f.kind=12\/f.kind=13\/f.kind=15->offP d (Ee f.kind d) (d.len.toNat+1)/\(f.kind=12->lettP d d.len.toNat))/\(f.kind=18->unionP d d.len.toNat)/\(f.kind=19->dictP f.idx d d.len.toNat)
theorem Tri.isF{f:FuncId}{args:List EV}{h:EH}{p q:Prop}(hpq:p↔q)(t:Tri Tryz.prog gs f args h fun v h'=>IsF0 p v/\h'=h):Tri Tryz.prog gs f args h fun v h'=>IsF0 q v/\h'=h:=by
 rw[<-propext hpq];exact t
theorem ZX(f:Fld)(d:Dat)(hs:SubF f)(hok:okA d)(hz:szP f d)(h:EH) :
  Tri Tryz.prog gs 72 [.agg (Bo f),.agg (Bs d)] h fun v h'=>IsF0 (Ef f d) v/\h'=h:=by
 have hfit:=hs.fits
 unfold Cl at hfit
 have hd2:=PJ hok
 by_cases h1:f.kind=12\/f.kind=13\/f.kind=15
 ·have hb:=hz.b1 h1
  refine Tri.isF (p:=offP d (Ee f.kind d) (d.len.toNat+1)/\(f.kind=12->lettP d d.len.toNat)) ⟨fun hh=>⟨fun _=>hh,fun e=>by omega,fun e=>by omega⟩,fun hh=>hh.1 h1⟩ (zB3 f d h1 _ (fun h=>?_) h)
  have hn:=hz.nb;refine WQ f d h1 hz.len ?_ ?_ hb.2 (hz.big 1 (by omega)).1 (hz.big 1 (by omega)).2 ?_ (fun e=>(hz.big 2 ?_).2) hz.nul h
  ·unfold Cc at hn
   rcases h1 with e|e|e<;>rw[e]at hn ⊢ <;> simp at hn ⊢ <;> omega
  ·intro e
   have:=hz.nk;unfold Dh at this;rw[e]at this hfit;simp at this hfit;omega
  ·by_cases h2:2<d.bufs.length
   ·exact(hz.big 2 h2).1
   ·unfold Dat.buf;rw[lG,List.getElem?_eq_none (by omega)];simp
  ·rw[e]at hn
   unfold Cc at hn;simp at hn;omega
 ·by_cases h2:f.kind=18
  ·have hb:=hz.b18 h2
   exact Tri.isF (p:=unionP d d.len.toNat) ⟨fun hh=>⟨fun e=>absurd e h1,fun _=>hh,fun e=>by omega⟩,fun hh=>hh.2.1 h2⟩
    (WJ f d h2 hz.len hb.1 hd2.2.2 hb.2.1 (hz.big 0 (by omega)).1 (hz.big 0 (by omega)).2 hb.2.2 (hz.big 1 (by omega)).1 (hz.big 1 (by omega)).2 h)
  ·by_cases h3:f.kind=19
   ·have hb:=hz.b19 h3
    have hx:3<=f.idx/\f.idx<=10:=by rw[h3]at hfit;simp at hfit;omega
    exact Tri.isF (p:=dictP f.idx d d.len.toNat) ⟨fun hh=>⟨fun e=>absurd e h1,fun e=>absurd e h2,fun _=>hh⟩,fun hh=>hh.2.2 h3⟩
     (zAu f d h3 hz.len hx.1 hx.2 hb.1 hb.2.1 (hz.big 1 (by omega)).1 (hz.big 1 (by omega)).2 hb.2.2 (Vb (Jg hd2.1 0 (by omega))) hz.nul h)
   ·exact Tri.isF (p:=True) ⟨fun _=>⟨fun e=>absurd e h1,fun e=>absurd e h2,fun e=>absurd e h3⟩,fun _=>trivial⟩ (WT f d (by omega) h)
theorem zAG(f:Fld)(d:Dat)(W:List (List Nat))(hw:wPre f d W)(h:EH) :
  Tri Tryz.prog gs 76 [.agg (Bo f),.agg (Bs d),.isl W.length none (DH W)] h fun v h'=>v=DA ((List.range d.len.toNat).map fun j=>wtW f d W (d.ofs.toNat+j))/\h'=h:=by
 have hcl:∀l,clL (CN l)=true:=fun l=>Dj fun x hx=>by
  obtain⟨n,_,rfl⟩:=List.mem_map.1 hx;rfl
 have t1:=Tri.mv (R':=fun v h'=>∃v',v'=DA ((List.range d.len.toNat).map fun j=>wtW f d W (d.ofs.toNat+j))/\Up v v') (Yh f d W hw) fun v h' ⟨C,e1,a,b,c,e2⟩=>by
  subst e1;subst e2;refine⟨[],[3],rfl,⟨by simp,by simp,fun id hid=>by simp at hid;subst hid;exact⟨_,rfl,hcl _⟩⟩,_,rfl,?_⟩
  unfold DA;rw[List.length_map,List.length_range];exact Up.cap _ _ _
 exact Tri.valA rfl (by rw[BF,BL];rfl) (Tri.up t1 fun v h' ⟨v',h1,h2⟩=>⟨v',h1,h2⟩) h
def wts(f:Fld)(d:Dat):List Nat:=(CM f d).map (·.2)
theorem wts_eq(f:Fld)(d:Dat):wts f d=(List.range d.len.toNat).map fun j=>(BB f d (d.ofs.toNat+j)).2:=by
 unfold wts CM;rw[List.map_map];rfl
theorem JX(f:Fld)(d:Dat):(wts f d).length=d.len.toNat:=by simp[wts_eq]
theorem Pu(f:Fld)(d:Dat)(j:Nat)(h:j<d.len.toNat):(wts f d).getD j 0=(BB f d (d.ofs.toNat+j)).2:=by
 rw[wts_eq,lG,List.getElem?_map,List.getElem?_range h];rfl
def J7(e:Dat):Prop:=DD Cz e/\Ef Cz e/\BA (wts Cz e)<=4194304
mutual
def BS:Fld->Dat->Prop
 | .mk nm nul k w i x kids,d=>DD (.mk nm nul k w i x kids) d/\Ef (.mk nm nul k w i x kids) d/\(k=20->J7 (d.kids.getD 0 Bf))/\Ga kids (d.parts k)/\(k=20->DG d)/\BA (wts (.mk nm nul k w i x kids) d)<=4194304
def Ga:List Fld->List Dat->Prop
 |[],_=>True
 |_::_,[]=>True
 |f::fs,d::ds=>BS f d/\Ga fs ds
end
theorem Iv(f:Fld)(d:Dat):BS f d↔DD f d/\Ef f d/\(f.kind=20->J7 (d.kids.getD 0 Bf))/\Ga f.kids (d.parts f.kind)/\(f.kind=20->DG d)/\BA (wts f d)<=4194304:=by
 cases f;exact Iff.rfl
theorem zBx(e:Dat):BS Cz e↔J7 e:=by
 rw[Iv]
 unfold J7
 refine⟨fun⟨a,b,_,_,_,c⟩=>⟨a,b,c⟩,fun⟨a,b,c⟩=>⟨a,b,fun h=>?_,?_,fun h=>?_,c⟩⟩
 ·exact absurd h (by decide)
 ·show Ga [] _;unfold Ga;trivial
 ·exact absurd h (by decide)
theorem RI:∀(fs:List Fld) (ds:List Dat),fs.length=ds.length->(Ga fs ds↔∀j<fs.length,BS (fs.getD j BQ) (ds.getD j Bf))
 |[],ds,_=>by unfold Ga;simp
 |f::fs,[],h=>by simp at h
 |f::fs,d::ds,h=>by
  unfold Ga;rw[RI fs ds (by simpa using h)]
  constructor
  ·rintro⟨a,b⟩ j hj
   cases j with
   |zero=>exact a
   |succ j=>exact b j (by simpa using hj)
  ·intro k
   exact⟨k 0 (by simp),fun j hj=>k (j+1) (by simpa using hj)⟩
theorem Ik{f:Fld}{d:Dat}(hs:SubF f)(h:szP f d):(Bv d).length=if f.kind=20 then 2 else f.kids.length:=by
 have h1:=h.nk
 have h2:=h.nd
 have hfit:=hs.fits
 unfold Cl at hfit
 unfold DZ at h2
 unfold Dh at h1
 unfold Bv
 by_cases e:f.kind=19
 ·rw[if_pos e]at h2
  rw[e]at hfit;simp at hfit;rw[if_pos (by omega),if_neg (by omega)];omega
 ·rw[if_neg e]at h2 h1
  rw[if_neg (by omega)]
  by_cases e2:f.kind=20
  ·rw[if_pos e2]at h1 ⊢
   rw[e2]at hfit;simp at hfit;omega
  ·rw[if_neg e2]at h1 ⊢;exact h1
theorem Sw{f:Fld}{d:Dat}(hs:SubF f)(h:szP f d):d.parts f.kind=if f.kind=20 then (Bv d).drop 1 else Bv d:=by
 have h1:=h.nk
 have h2:=h.nd
 unfold DZ at h2
 unfold Dh at h1
 unfold Bv Dat.parts
 by_cases e:f.kind=19
 ·rw[if_pos e]at h2 ⊢
  rw[if_neg (by omega),if_pos (by omega)]
 ·rw[if_neg e]at h2 ⊢
  have e3:¬0<d.dict.length:=by omega
  simp only[if_neg e3]
theorem PM{f:Fld}{d:Dat}(hs:SubF f)(h:szP f d):(DD f d/\Ef f d/\(∀j<(Bv d).length,BS (Bz f j) ((Bv d).getD j Bf))/\(f.kind=20->DG d)/\BA (wts f d)<=4194304)↔BS f d:=by
 rw[Iv]
 have hl:=Ik hs h
 have hp:=Sw hs h
 have hd0:f.kind=20->(Bv d).getD 0 Bf=d.kids.getD 0 Bf:=fun e=>by
  have h2:=h.nd;unfold DZ at h2;unfold Bv;rw[if_neg (by omega)]at h2
  rw[if_neg (by omega)]
 have key:(∀j<(Bv d).length,BS (Bz f j) ((Bv d).getD j Bf))↔(f.kind=20->J7 (d.kids.getD 0 Bf))/\Ga f.kids (d.parts f.kind):=by
  by_cases e:f.kind=20
  ·rw[if_pos e]at hl hp
   have hk1:f.kids.length=1:=by have hfit:=hs.fits;unfold Cl at hfit;rw[e]at hfit;simp at hfit;omega
   rw[hp,RI _ _ (by rw[lD];omega),<-hd0 e,<-zBx]
   constructor
   ·intro k
    refine⟨fun _=>?_,fun j hj=>?_⟩
    ·have:=k 0 (by omega)
     unfold Bz at this;rw[if_pos e,if_pos rfl]at this;exact this
    ·have:=k 1 (by omega)
     unfold Bz at this;rw[if_pos e,if_neg (by omega)]at this
     obtain rfl:j=0:=by omega
     rw[lG (l:=List.drop 1 _),List.getElem?_drop];rw[lG (l:=Bv d)]at this;exact this
   ·rintro⟨a,b⟩ j hj
    unfold Bz;rw[if_pos e];rcases (by omega:j=0\/j=1)with rfl|rfl
    ·rw[if_pos rfl];exact a e
    ·have:=b 0 (by omega)
     rw[if_neg (by omega)]
     rw[lG (l:=List.drop 1 _),List.getElem?_drop]at this;rw[lG (l:=Bv d)];exact this
  ·rw[if_neg e]at hl hp
   rw[hp,RI _ _ hl.symm,hl];constructor
   ·intro k
    refine⟨fun h=>absurd h e,fun j hj=>?_⟩
    have:=k j hj;unfold Bz at this;rw[if_neg e]at this;exact this
   ·rintro⟨_,b⟩ j hj
    unfold Bz;rw[if_neg e];exact b j hj
 rw[key]
 constructor
 ·rintro⟨a,b,⟨c,c'⟩,e,g⟩;exact⟨a,b,c,c',e,g⟩
 ·rintro⟨a,b,c,c',e,g⟩;exact⟨a,b,⟨c,c'⟩,e,g⟩
end Go.Proofs.YtehgpabfgjofhaaGreatDoor.Stats
