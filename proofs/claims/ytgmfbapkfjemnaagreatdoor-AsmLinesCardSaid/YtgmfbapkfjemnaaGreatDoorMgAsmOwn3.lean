/-
  Part 4 of the texts that the claim leans on.
-/
import Derived.Laws.IdiomStrings
import Derived.Test.YtgmfbapkfjemnaaGreatDoorMgAsmOwn2
namespace Lf
open Go.Pinned
def cfOk :Nat→Nat→Nat→Nat→Nat→Nat→Nat→Bool
 | 0,_,_,_,_,_,_=>false
 | fuel+1,k1,d1,k2,d2,Y,W=>
  if Y≤k1+k2 then decide (W<d1)&&decide (W≤d2)
  else if d2<d1 then
   let q:=min ((d1-1) / d2) ((Y-k1-k2-1) / k2+1)
   cfOk fuel (k1+q*k2) (d1-q*d2) k2 d2 Y W
  else
   let q:=min ((d2-1) / d1) ((Y-k1-k2-1) / k1+1)
   cfOk fuel k1 d1 (k2+q*k1) (d2-q*d1) Y W
theorem zhb2 {a M k1 d1 k2 d2 c1 c2 y n r:Int} (hM:0<M) (p1:0≤k1) (p2:0≤k2) (q1:0<d1) (q2:0<d2) (e0:k1*d2+k2*d1=M) (e1:k1*a=d1+c1*M) (e2:k2*a=c2*M-d2)
  (hy:0<y) (hr:y*a=n*M+r) (h:(0≤r∧r<d1)∨(r<0∧ -d2<r)):k1+k2≤y:=by
 have x1:(y*c2-k2*n)*M=y*d2+k2*r:=by grind
 have x2:(k1*n-y*c1)*M=y*d1-k1*r:=by grind
 have u1:(c2*k1-c1*k2)*M=1*M:=by grind
 have u1:c2*k1-c1*k2=1:=Int.eq_of_mul_eq_mul_right (by omega) u1
 have u2:(c2*d1+c1*d2)*M=a*M:=by grind
 have u2:c2*d1+c1*d2=a:=Int.eq_of_mul_eq_mul_right (by omega) u2
 have y1:y=(y*c2-k2*n)*k1+(k1*n-y*c1)*k2:=by grind
 have r1:r=(y*c2-k2*n)*d1-(k1*n-y*c1)*d2:=by grind
 generalize y*c2-k2*n=α at*
 generalize k1*n-y*c1=β at*
 have yd2:0<y*d2:=Int.mul_pos hy q2
 have yd1:0<y*d1:=Int.mul_pos hy q1
 have pos:∀ {z:Int},0<z*M→1≤z:=fun {z} hz=>by
  rcases Int.lt_or_le 0 z with h | h
  ·omega
  ·have:=Int.mul_nonpos_of_nonpos_of_nonneg h (show 0≤M by omega)
   omega
 have both:1≤α→1≤β→k1+k2≤y:=fun ha hb=>by
  have t1:=Int.mul_le_mul_of_nonneg_right ha p1
  have t2:=Int.mul_le_mul_of_nonneg_right hb p2
  omega
 rcases h with ⟨h0,h1⟩ | ⟨h0,h1⟩
 ·have k2r:0≤k2*r:=Int.mul_nonneg p2 h0
  have ha:1≤α:=pos (by omega)
  refine both ha ?_
  rcases Int.lt_or_le 0 β with hb | hb
  ·omega
  ·have t1:=Int.mul_le_mul_of_nonneg_right ha (show 0≤d1 by omega)
   have t2:=Int.mul_nonpos_of_nonpos_of_nonneg hb (show 0≤d2 by omega)
   omega
 ·have k1r:0≤k1*(-r):=Int.mul_nonneg p1 (by omega)
  rw [Int.mul_neg] at k1r
  have hb:1≤β:=pos (by omega)
  refine both ?_ hb
  rcases Int.lt_or_le 0 α with ha | ha
  ·omega
  ·have t1:=Int.mul_le_mul_of_nonneg_right hb (show 0≤d2 by omega)
   have t2:=Int.mul_nonpos_of_nonpos_of_nonneg ha (show 0≤d1 by omega)
   omega
theorem zjh2 {a M Y W:Nat} (hM:0<M):∀(fuel k1 d1 k2 d2:Nat) (c1 c2:Int),cfOk fuel k1 d1 k2 d2 Y W=true→0<d1→0<d2→k1*d2+k2*d1=M→(k1:Int)*a=d1+c1*M→(k2:Int)*a=c2*M-d2→
  ∀y,0<y→y<Y→W<y*a%M∧y*a%M+W≤M:=by
 intro fuel
 induction fuel with
 | zero=>intro _ _ _ _ _ _ h;cases h
 | succ fuel ih=>
  intro k1 d1 k2 d2 c1 c2 h q1 q2 e0 e1 e2 y y0 y1
  unfold cfOk at h
  by_cases hY:Y≤k1+k2
  ·rw [if_pos hY,Bool.and_eq_true] at h
   have w1:=of_decide_eq_true h.1
   have w2:=of_decide_eq_true h.2
   have hdm:=Nat.div_add_mod (y*a) M
   have hlt:=Nat.mod_lt (y*a) hM
   have e0':(k1:Int)*d2+k2*d1=M:=by rw [←e0];norm_cast
   have go:=fun (n r:Int) (hr:(y:Int)*a=n*M+r) hc=>zhb2 (n:=n) (r:=r) (by omega) (by omega) (by omega) (by omega) (by omega) e0' e1 e2 (show 0<(y:Int) by omega) hr hc
   constructor
   ·refine Classical.byContradiction fun hh=> ?_
    have:=go ((y*a / M:Nat):Int) ((y*a%M:Nat):Int) (by rw [Int.mul_comm _ (M:Int)];norm_cast;exact hdm.symm) (.inl ⟨by omega,by omega⟩)
    omega
   ·refine Classical.byContradiction fun hh=> ?_
    have:=go ((y*a / M:Nat)+1:Int) (((y*a%M:Nat):Int)-M) (by
     have:(y:Int)*a=M*((y*a / M:Nat):Int)+((y*a%M:Nat):Int):=by norm_cast;exact hdm.symm
     rw [this,Int.add_mul,Int.mul_comm (M:Int)]
     omega) (.inr ⟨by omega,by omega⟩)
    omega
  ·rw [if_neg hY] at h
   by_cases hd:d2<d1
   ·rw [if_pos hd] at h
    dsimp only at h
    have hq:min ((d1-1) / d2) ((Y-k1-k2-1) / k2+1)≤(d1-1) / d2:=Nat.min_le_left _ _
    generalize min ((d1-1) / d2) ((Y-k1-k2-1) / k2+1)=q at*
    have hq:q*d2≤d1-1:=Nat.le_trans (Nat.mul_le_mul_right _ hq) (Nat.div_mul_le_self _ _)
    refine ih _ _ _ _ (c1+q*c2) c2 h (by omega) q2 ?_ ?_ e2 y y0 y1
    ·rw [Nat.add_mul,Nat.mul_sub,←e0]
     have:k2*(q*d2)≤k2*d1:=Nat.mul_le_mul_left _ (by omega)
     have:q*k2*d2=k2*(q*d2):=by rw [Nat.mul_comm q,Nat.mul_assoc]
     omega
    ·rw [Int.natCast_sub (by omega)]
     push_cast
     grind
   ·rw [if_neg hd] at h
    dsimp only at h
    have hq:min ((d2-1) / d1) ((Y-k1-k2-1) / k1+1)≤(d2-1) / d1:=Nat.min_le_left _ _
    generalize min ((d2-1) / d1) ((Y-k1-k2-1) / k1+1)=q at*
    have hq:q*d1≤d2-1:=Nat.le_trans (Nat.mul_le_mul_right _ hq) (Nat.div_mul_le_self _ _)
    refine ih _ _ _ _ c1 (c2+q*c1) h q1 (by omega) ?_ e1 ?_ y y0 y1
    ·rw [Nat.add_mul,Nat.mul_sub,←e0]
     have:k1*(q*d1)≤k1*d2:=Nat.mul_le_mul_left _ (by omega)
     have:q*k1*d1=k1*(q*d1):=by rw [Nat.mul_comm q,Nat.mul_assoc]
     omega
    ·rw [Int.natCast_sub (by omega)]
     push_cast
     grind
def numP (p:Int):Nat:=10^p.toNat*2^(127-log2P p).toNat
def denP (p:Int):Nat:=10^(-p).toNat*2^(log2P p-127).toNat
def pmP (p:Int):Nat:=hiP p*18446744073709551616-loP p
def certP (p:Int) (s t:Nat):Bool:=
 let M:=2^(128+s-t)
 decide (36893488147419103232*denP p≤Nat.gcd (2^t*numP p) (denP p*(2^128*2^s))) ||
 (decide (0<pmP p%M)&&cfOk 200 1 (pmP p%M) 0 M (2^(64-t)) (2^(64-t)))
theorem zms1 {x A B N D g:Nat} (hx1:x<18446744073709551616) (f1:(N-x)*B<x*A) (f2:x*A≤N*B) (hg:g ∣ x*A) (hg2:g ∣ B*D) (big:36893488147419103232*B≤g) (hD:18446744073709551616<D) (hB:0<B):WholeOk (x*A) N B D:=by
 intro h
 have hdm:=Nat.div_add_mod N D
 have hlt:=Nat.mod_lt N (show 0<D by omega)
 generalize x*A=F at*
 obtain ⟨f,rfl⟩:=hg
 obtain ⟨b,hb⟩:=hg2
 have hg0:0<g:=by omega
 have near:∀j:Nat,g*f<j*(B*D)+g→j*(B*D)<g*f+g→g*f=j*(B*D):=fun j h1 h2=>by
  rw [hb] at h1 h2 ⊢
  have e:j*(g*b)=g*(j*b):=by rw [←Nat.mul_assoc,Nat.mul_comm j,Nat.mul_assoc]
  rw [e] at h1 h2 ⊢
  have h1:g*f<g*(j*b+1):=by rw [Nat.mul_add,Nat.mul_one];exact h1
  have h2:g*(j*b)<g*(f+1):=by rw [Nat.mul_add,Nat.mul_one];exact h2
  have h1:=Nat.lt_of_mul_lt_mul_left h1
  have h2:=Nat.lt_of_mul_lt_mul_left h2
  rw [show f=j*b by omega]
 have xB:x*B≤18446744073709551615*B:=Nat.mul_le_mul_right B (by omega)
 have nB:(N-x)*B=N*B-x*B:=Nat.sub_mul _ _ _
 have eN:N*B=N / D*(B*D)+N%D*B:=by
  conv=>lhs;rw [←hdm]
  rw [Nat.add_mul,Nat.mul_comm D,Nat.mul_assoc,Nat.mul_comm D]
 rcases h with h | h
 ·have t1:N%D*B≤18446744073709551616*B:=Nat.mul_le_mul_right B h
  exact ⟨N / D,by rw [near (N / D) (by omega) (by omega),Nat.mul_comm]⟩
 ·have e1:(N / D+1)*(B*D)=N / D*(B*D)+B*D:=by rw [Nat.add_mul,Nat.one_mul]
  have t1:(D-18446744073709551616)*B≤N%D*B:=Nat.mul_le_mul_right B (by omega)
  rw [Nat.sub_mul] at t1
  have t2:N%D*B≤D*B:=Nat.mul_le_mul_right B (by omega)
  have t3:18446744073709551616*B≤D*B:=Nat.mul_le_mul_right B (by omega)
  have e2:D*B=B*D:=Nat.mul_comm _ _
  exact ⟨N / D+1,by rw [near (N / D+1) (by omega) (by omega),Nat.mul_comm]⟩
def rowOk (p:Int):Bool:=decide ((pmP p-1)*denP p<numP p)&&decide (numP p≤pmP p*denP p)
theorem zhc2 :∀i:Nat,i<696→rowOk ((i:Int)-348)=true:=by decide+kernel
theorem zzs1 {p:Int} (h0: -348≤p) (h1:p≤347):(pmP p-1)*denP p<numP p∧numP p≤pmP p*denP p:=by
 have:=zhc2 (p+348).toNat (by omega)
 rw [show (((p+348).toNat:Nat):Int)-348=p by omega] at this
 unfold rowOk at this
 rw [Bool.and_eq_true] at this
 exact ⟨of_decide_eq_true this.1,of_decide_eq_true this.2⟩
theorem zhw1 {p:Int} {s t y:Nat} (h0: -348≤p) (h1:p≤347) (ht:t<64) (hc:certP p s t=true) (hy:0<y) (hy1:y<2^(64-t)):
  WholeOk (2^t*y*numP p) (2^t*y*pmP p) (denP p) (2^128*2^s):=by
 obtain ⟨r1,r2⟩:=zzs1 h0 h1
 have hB:0<denP p:=by
  rcases Nat.eq_zero_or_pos (denP p) with h | h
  ·rw [h] at r1 r2;omega
  ·exact h
 have hx1:2^t*y<18446744073709551616:=by
  have:=Nat.mul_lt_mul_of_pos_left hy1 (Nat.two_pow_pos t)
  rw [←Nat.pow_add,show t+(64-t)=64 by omega] at this
  exact this
 have hx:0<2^t*y:=Nat.mul_pos (Nat.two_pow_pos t) hy
 have hD:18446744073709551616<2^128*2^s:=by
  have:=Nat.mul_le_mul_left (2^128) (Nat.two_pow_pos s)
  have:2^128*1≤2^128*2^s:=this
  omega
 unfold certP at hc
 dsimp only at hc
 rw [Bool.or_eq_true,Bool.and_eq_true] at hc
 rcases hc with hc | ⟨hc1,hc2⟩
 ·have hc:=of_decide_eq_true hc
  refine zms1 (g:=Nat.gcd (2^t*numP p) (denP p*(2^128*2^s))) hx1 ?_ ?_ ?_ (Nat.gcd_dvd_right _ _) hc hD hB
  ·have e:2^t*y*pmP p-2^t*y=2^t*y*(pmP p-1):=by rw [Nat.mul_sub,Nat.mul_one]
   rw [e,Nat.mul_assoc]
   exact Nat.mul_lt_mul_of_pos_left r1 hx
  ·rw [Nat.mul_assoc (2^t*y)]
   exact Nat.mul_le_mul_left _ r2
  ·refine Nat.dvd_trans (Nat.gcd_dvd_left _ _) ⟨y,?_⟩
   rw [Nat.mul_assoc,Nat.mul_comm y,←Nat.mul_assoc]
 ·have hc1:=of_decide_eq_true hc1
  intro hw
  exfalso
  have hM:0<2^(128+s-t):=Nat.two_pow_pos _
  have eD:2^128*2^s=2^t*2^(128+s-t):=by rw [←Nat.pow_add,←Nat.pow_add];congr 1;omega
  generalize 2^(128+s-t)=M at*
  have lt:=Nat.mod_lt (pmP p) hM
  have hdm:=Nat.div_add_mod (pmP p) M
  have far:=zjh2 hM 200 1 (pmP p%M) 0 M (a:=pmP p) ((pmP p / M:Nat):Int) 1 hc2 hc1 hM (by omega) (by
   have:(pmP p:Int)=((M:Nat):Int)*((pmP p / M:Nat):Int)+((pmP p%M:Nat):Int):=by norm_cast;exact hdm.symm
   rw [Int.mul_comm _ ((M:Nat):Int),this]
   show (1:Int)*_=_
   generalize ((pmP p / M:Nat):Int)=k
   generalize ((pmP p%M:Nat):Int)=l
   omega) (by omega) y hy hy1
  have eW:18446744073709551616=2^t*2^(64-t):=by rw [←Nat.pow_add,show t+(64-t)=64 by omega]
  rw [eD,Nat.mul_assoc,Nat.mul_mod_mul_left,eW,←Nat.mul_sub] at hw
  rcases hw with hw | hw
  ·have:=Nat.le_of_mul_le_mul_left hw (Nat.two_pow_pos t)
   omega
  ·have:=Nat.lt_of_mul_lt_mul_left hw
   omega
end Lf

namespace Lf
def certE (e p:Int):Bool:=certP p (-(e+log2P p+3)).toNat 9
def certS (i:Nat):Bool:=certE ((i:Int)-1085) (-zip ((i:Int)-1074))&&certE ((i:Int)-1085) (-skewP ((i:Int)-1074))
theorem ztn1 :∀i:Nat,i<2060→certS i=true:=by decide+kernel
end Lf

namespace Lf
open Go Go.Proofs Go.Pinned
section
variable {h:Hp}
theorem Pow10.known (t:Pow10 h):h 8≠none:=by
 have e:=t 0 (.int .u64 ((pow10Rows.getD 0 (0,0)).1:Int)) (by
  have:=(flat2 (l:=pow10Rows) (i:=0) (x:=pow10Rows.getD 0 (0,0)) (by
   have hl:0<pow10Rows.length:=by rw [zmr1];decide
   simp [List.getD,List.getElem?_eq_getElem hl])).1
  exact this)
 obtain ⟨o,ho⟩:=zzm e
 have ho:h 8=some o:=ho
 rw [ho]
 simp
theorem andi1 {s:Nat} (hs:s<9223372036854775808):bitsI .and .i64 (IntKind.wrap .i64 (s:Int)) (1:Int)=((s%2:Nat):Int):=by
 rw [zae (by omega) (by omega)]
 unfold bitsI
 dsimp only
 show IntKind.wrap .i64 (((BitVec.ofInt 64 (s:Int))&&&(BitVec.ofInt 64 1)).toNat:Int)=_
 rw [BitVec.toNat_and,zkx (by omega),show (BitVec.ofInt 64 1).toNat=2^1-1 by decide,Nat.and_two_pow_sub_one_eq_mod,zae (by omega) (by omega),Nat.pow_one]
theorem zhd2 {n:Nat}:((n%2:Nat):Int)=if (n%2==1)=true then 1 else 0:=by
 by_cases h:n%2=1
 ·rw [if_pos (by simpa using h),h];rfl
 ·rw [if_neg (by simpa using h),show n%2=0 by omega];rfl
theorem zhx1 {x hi lo s:Nat} (hx:x<18446744073709551616) (hh:hi<18446744073709551616):ztl x hi lo s<18446744073709551616:=by
 have hul:x*hi / 18446744073709551616<18446744073709551616:=Nat.div_lt_of_lt_mul (Nat.lt_of_lt_of_le (Nat.mul_lt_mul_of_lt_of_lt hx hh) (Nat.le_refl _))
 have hdiv:∀ {v:Nat},v<18446744073709551616→v / 2^s<18446744073709551616:=fun hv=>Nat.lt_of_le_of_lt (Nat.div_le_self _ _) hv
 have o1:∀ {v k:Nat},v<18446744073709551616→k<18446744073709551616→v ||| k<18446744073709551616:=fun {v k} hv hk=>Nat.or_lt_two_pow (n:=64) hv hk
 unfold ztl
 dsimp only
 split
 ·exact o1 (hdiv hul) (by omega)
 ·exact o1 (hdiv (by split<;>omega)) (by split<;>omega)
theorem zto1 {u:Nat} {a b:Bool} (hu:u<18446744073709551616):zop u a b<18446744073709551616:=by
 unfold zop
 split
 ·exact Nat.mod_lt _ (by decide)
 ·exact hu
theorem zdg1 {x hi:Nat} (hx:2305843009213693952≤x) (hh:9223372036854775808≤hi):x*hi / 18446744073709551616≠0:=by
 have:=Nat.mul_le_mul hx hh
 have:2305843009213693952*9223372036854775808≤x*hi:=this
 generalize x*hi=z at*
 omega
theorem zds2 {m:Nat} {e:Int} {Q:Int→Int→Hp→Prop} (m0:9223372036854775808≤m) (m1:m+2^zP e≤18446744073709551616) (h0: -1137≤e) (h1:e≤974) (t:Pow10 h)
  (hk:∀h',h≤h'→Q ((zbe m e).1:Int) (zbe m e).2 h'):zcc Tryz.prog m e Q h:=by
 obtain ⟨p0,p1,s0,s1⟩:=p_in (m:=m) h0 h1
 have hz:11≤zP e∧zP e≤63:=by unfold zP;split<;>omega
 have hz1:2^zP e=2*2^(zP e-1):=by rw [←Nat.pow_succ'];congr 1;omega
 have hzm:2^(zP e-1)≤4611686018427387904:=by
  have:2^(zP e-1)≤2^62:=Nat.pow_le_pow_right (by decide) (by omega)
  exact this
 have hz0:1024≤2^(zP e-1):=by
  have:2^10≤2^(zP e-1):=Nat.pow_le_pow_right (by decide) (by omega)
  exact this
 have hodd:∀ {z:Int},z=(zP e:Int)→bitsI .and .i64 (IntKind.wrap .i64 (shrI .u64 (m:Int) z)) (1:Int)=if oddP m e=true then 1 else 0:=fun {z} hz'=>by
  subst hz'
  rw [shrN m (by omega),andi1,zhd2]
  ·rfl
  ·have:m / 2^zP e≤m / 2^11:=Nat.div_le_div_left (Nat.pow_le_pow_right (by decide) hz.1) (by decide)
   omega
 have one:∀ {z:Int} (n:Nat),z=(n:Int)→n≤62→shlI .u64 (1:Int) z=((2^n:Nat):Int):=fun {z} n hn hl=>by
  subst hn
  have:=shlN (x:=1) (n:=n) (by omega) (by
   have:2^n≤2^62:=Nat.pow_le_pow_right (by decide) hl
   omega)
  rw [Nat.one_mul] at this
  exact this
 unfold zcc
 refine JoinW2.direct ?_
 dsimp only
 rw [show IntKind.wrap .i64 ((63:Int)-(52:Int))=11 by decide]
 refine JoinW4.intro (fun p mn mx od k=>k=h∧p=pP m e∧mn=((minP m e:Nat):Int)∧mx=((maxP m e:Nat):Int)∧od=if oddP m e=true then 1 else 0) (letW ?_) ?_
 ·by_cases hc:m=9223372036854775808∧ -1085<e
  ·have hze:zP e=11:=by unfold zP;rw [if_pos (by omega)]
   refine iteT (by rw [Bool.and_eq_true];exact ⟨by rw [beq_iff_eq];omega,decide_eq_true (by omega)⟩) ?_
   rw [zae (n:=e+11) (by omega) (by omega)]
   refine zqi (zgz2 (by omega) (by omega) ⟨by decide,by decide,by decide,rfl,?_,?_,?_,?_⟩)
   ·have: -5000≤skewP (e+11)∧skewP (e+11)≤5000:=by unfold skewP;omega
    rw [zae (by omega) (by omega)]
    unfold pP
    rw [if_pos hc]
    omega
   ·rw [one 9 (by decide) (by decide),zan]
    unfold minP
    rw [if_pos hc]
    omega
   ·rw [one 10 (by decide) (by decide),zan]
    unfold maxP
    rw [hze]
    omega
   ·exact hodd (by rw [hze];rfl)
  ·refine iteF (fun hh=>hc (by rw [Bool.and_eq_true,beq_iff_eq] at hh;exact ⟨by omega,of_decide_eq_true hh.2⟩)) ?_
   have hp:pP m e= -zip (e+(zP e:Int)):=by unfold pP;rw [if_neg hc]
   have hmn:minP m e=m-2^(zP e-1):=by unfold minP;rw [if_neg hc]
   by_cases hd: -1085≤e
   ·have hze:zP e=11:=by unfold zP;rw [if_pos hd]
    refine iteT (decide_eq_true hd) ?_
    rw [zae (n:=e+11) (by omega) (by omega)]
    refine zdo (zkf1 (by omega) (by omega) ⟨by decide,by decide,by decide,rfl,?_,?_,?_,?_⟩)
    ·have: -5000≤zip (e+11)∧zip (e+11)≤5000:=by unfold zip;omega
     rw [zae (by omega) (by omega),hp,hze,Int.zero_sub]
     rfl
    ·rw [one 10 (by decide) (by decide),zan,hmn,hze]
     omega
    ·rw [one 10 (by decide) (by decide),zan]
     unfold maxP
     rw [hze]
     omega
    ·exact hodd (by rw [hze];rfl)
   ·have hze:(zP e:Int)=11+(-1085-e):=by unfold zP;rw [if_neg hd];omega
    refine iteF (fun hh=>hd (of_decide_eq_true hh)) ?_
    have e1:IntKind.wrap .i64 ((11:Int)+IntKind.wrap .i64 ((-1085:Int)-e))=(zP e:Int):=by rw [zae (n:= -1085-e) (by omega) (by omega),zae (by omega) (by omega),hze]
    have e2:IntKind.wrap .i64 ((zP e:Int)-1)=((zP e-1:Nat):Int):=by rw [zae (by omega) (by omega)];omega
    rw [e1,e2,zae (n:=e+(zP e:Int)) (by omega) (by omega)]
    refine zdo (zkf1 (by omega) (by omega) ⟨by omega,by omega,by omega,rfl,?_,?_,?_,?_⟩)
    ·have: -5000≤zip (e+(zP e:Int))∧zip (e+(zP e:Int))≤5000:=by unfold zip;omega
     rw [zae (by omega) (by omega),hp]
     omega
    ·rw [one (zP e-1) rfl (by omega),zan,hmn]
     omega
    ·rw [one (zP e-1) rfl (by omega),zan]
     unfold maxP
     omega
    ·exact hodd rfl
 ·rintro p mn mx od k ⟨rfl,rfl,rfl,rfl,rfl⟩
  have bn:2305843009213693952≤minP m e∧minP m e<18446744073709551616:=by unfold minP;split<;>omega
  have bx:2305843009213693952≤maxP m e∧maxP m e<18446744073709551616:=by unfold maxP;omega
  obtain ⟨r0,r1,r2⟩:=zhv1 p0 p1
  intro b ty hb
  have hb11:b≠8:=fun e1=>t.known (e1▸hb)
  have hle:=ziv (o:=.cells #[.int .u64 (0:Int),.int .u64 (0:Int),.int .i64 (0:Int)] ty (0,0)) hb
  have kb:Blk (k.set b (.cells #[.int .u64 (0:Int),.int .u64 (0:Int),.int .i64 (0:Int)] ty (0,0))) b [.int .u64 (0:Int),.int .u64 (0:Int),.int .i64 (0:Int)]:=⟨ty,zec⟩
  refine zdq (zqn1 (by omega) (by omega) ?_)
  refine zea (zqo1 kb (zbd hle t) hb11 p0 p1 rfl s0 s1 fun k1 mv sc=> ?_)
  have hle1:k≤k1:=fun c o hc=>mv.keep c o (hle c o hc) (by
   simp only [List.mem_singleton]
   intro e1
   rw [e1,hb] at hc
   cases hc)
  have scale:∀ {x:Nat} {Q':Int→Hp→Prop},2305843009213693952≤x→x<18446744073709551616→Q' ((sclP m e x:Nat):Int) k1→CallT Tryz.prog zbr [(.int .u64 (x:Int)),(.pointer (some ⟨b,0,none⟩))] (shInt .u64) Q' k1:=fun {x Q'} x0 x1 hq=>
   zfc (zmq1 x1 r1 r2 (by omega) (zdg1 x0 r0) sc hq)
  have slt:∀ {x:Nat},x<18446744073709551616→sclP m e x<18446744073709551616:=fun hx=>zhx1 hx r1
  refine scale bn.1 bn.2 ?_
  refine zem (ztm1 (odd:=oddP m e) (up:=true) (slt bn.2) (by simp) ?_)
  refine zkh (zha2 ?_)
  refine scale bx.1 bx.2 ?_
  refine zem (ztm1 (odd:=oddP m e) (up:=false) (slt bx.2) (by cases oddP m e<;>decide) ?_)
  refine zjx (zdr2 (zto1 (slt bx.2)) ⟨by decide,?_⟩)
  have hdx:dmaxP m e=zop (sclP m e (maxP m e)) (oddP m e) false / 4:=rfl
  have hdn:dminP m e=(zop (sclP m e (minP m e)) (oddP m e) true+3)%18446744073709551616 / 4:=rfl
  have ldx:dmaxP m e<18446744073709551616:=by rw [hdx];have:=zto1 (a:=oddP m e) (b:=false) (slt bx.2);omega
  rw [←hdx,←hdn]
  have e1:IntKind.wrap .u64 (Int.tdiv ((dmaxP m e:Nat):Int) (10:Int))=((dmaxP m e / 10:Nat):Int):=by
   rw [Int.tdiv_eq_ediv_of_nonneg (by omega),zan]
   omega
  have e2:IntKind.wrap .u64 (((dmaxP m e / 10:Nat):Int)*(10:Int))=((dmaxP m e / 10*10:Nat):Int):=by
   rw [zan]
   omega
  rw [e1,e2]
  have hk1:=hk k1 hle1
  unfold zbe at hk1
  by_cases c1:dminP m e≤dmaxP m e / 10*10
  ·rw [if_pos c1] at hk1
   refine iteT (decide_eq_true (by omega)) ?_
   rw [zae (n:=pP m e-1) (by omega) (by omega),zae (by omega) (by omega),Int.zero_sub]
   exact hk1
  ·rw [if_neg c1] at hk1
   refine iteF (fun hh=>c1 (by have:=of_decide_eq_true hh;omega)) ?_
   rw [zae (n:=0-pP m e) (by omega) (by omega),Int.zero_sub]
   by_cases c2:dminP m e<dmaxP m e
   ·rw [if_pos c2] at hk1
    refine iteT (decide_eq_true (by omega)) ?_
    refine scale (by omega) (by omega) ?_
    exact zbf (zdf1 (slt (by omega)) hk1)
   ·rw [if_neg c2] at hk1
    exact iteF (fun hh=>c2 (by have:=of_decide_eq_true hh;omega)) hk1
end
end Lf

namespace Lf
def unitW (a b:Int):Nat:=2^(a+5000).toNat*10^(b+5000).toNat
theorem zby (a b:Int):0<unitW a b:=Nat.mul_pos (Nat.two_pow_pos _) (Nat.pow_pos (by decide))
theorem zcq {a b:Int} {n:Nat} (h: -5000≤a):2^n*unitW a b=unitW (a+n) b:=by
 unfold unitW
 rw [←Nat.mul_assoc,←Nat.pow_add]
 congr 2
 omega
theorem zhx {a b:Int} {n:Nat} (h: -5000≤b):10^n*unitW a b=unitW a (b+n):=by
 unfold unitW
 rw [Nat.mul_left_comm,←Nat.pow_add]
 congr 2
 omega
theorem ztp1 {p a b:Int} (h0: -348≤p) (h1:p≤347) (a0: -3000≤a) (b0: -3000≤b):numP p*unitW a b=denP p*unitW (a+127-log2P p) (b+p):=by
 have hl: -1200≤log2P p∧log2P p≤1200:=by unfold log2P;omega
 unfold numP denP unitW
 generalize log2P p=L at*
 have e:∀i j k l:Nat,10^i*2^j*(2^k*10^l)=2^(j+k)*10^(i+l):=fun i j k l=>by
  rw [Nat.pow_add,Nat.pow_add]
  ac_rfl
 rw [e,e]
 congr 2<;>omega
attribute [irreducible] unitW
theorem zmt1 {F G F' G':Nat} (hG:0<G) (hG':0<G') (h:F*G'=F'*G):zav F G=zav F' G':=by
 have e1:F / G=F' / G':=by
  rw [←Nat.mul_div_mul_right F G hG',h,Nat.mul_comm G,Nat.mul_div_mul_right F' G' hG]
 have e2:G ∣ F↔G' ∣ F':=by
  rw [←Nat.mul_dvd_mul_iff_right hG',h,Nat.mul_comm G,Nat.mul_dvd_mul_iff_right hG]
 unfold zav
 rw [e1]
 by_cases h:G' ∣ F'
 ·rw [if_pos h,if_pos (e2.2 h)]
 ·rw [if_neg h,if_neg (fun hh=>h (e2.1 hh))]
theorem WholeOk.mul {F N B D c:Nat} (h:WholeOk F N B D) (hc:0<c):WholeOk (c*F) (c*N) B (c*D):=by
 intro hh
 rw [Nat.mul_mod_mul_left] at hh
 have e:B*(c*D)=c*(B*D):=Nat.mul_left_comm _ _ _
 rw [e]
 refine Nat.mul_dvd_mul_left c (h ?_)
 rcases hh with hh | hh
 ·left
  have l1:=Nat.mul_le_mul_right (N%D) hc
  omega
 ·right
  refine Classical.byContradiction fun hn=> ?_
  by_cases hd:D<18446744073709551616
  ·have:N%D=0:=by omega
   rw [this,Nat.mul_zero] at hh
   omega
  ·have t:=Nat.mul_le_mul_left c (show N%D+18446744073709551616≤D by omega)
   rw [Nat.mul_add] at t
   omega
theorem zmu1 {x:Nat} {p:Int} {s:Nat} (h0: -348≤p) (h1:p≤347) (hc:certP p s 9=true) (hx:0<x) (hx1:x<18446744073709551616) (hd:x%512=0):
  WholeOk (x*numP p) (x*pmP p) (denP p) (2^128*2^s):=by
 have:=zhw1 (y:=x / 512) h0 h1 (by decide) hc (by omega) (by
  show x / 512<2^55
  omega)
 rw [show (2:Nat)^9*(x / 512)=x by omega] at this
 exact this
theorem s_in {m:Nat} {e:Int} (h0: -1137≤e) (h1:e≤974):4≤(-(e+log2P (pP m e)+3)).toNat:=by
 unfold pP
 split
 ·unfold skewP log2P
  omega
 ·unfold zP zip log2P
  split<;>omega
theorem zqq1 {m x:Nat} {e:Int} (h0: -1137≤e) (h1:e≤974) (hx:0<x) (hx1:x<18446744073709551616)
  (hd:x%2^(if -1085≤e then 9 else zP e-1)=0):
  WholeOk (x*numP (pP m e)) (x*pmP (pP m e)) (denP (pP m e)) (2^128*2^(-(e+log2P (pP m e)+3)).toNat):=by
 obtain ⟨p0,p1,s0,s1⟩:=p_in (m:=m) h0 h1
 by_cases he: -1085≤e
 ·rw [if_pos he] at hd
  refine zmu1 p0 p1 ?_ hx hx1 hd
  have c:=ztn1 (e+1085).toNat (by omega)
  unfold certS certE at c
  rw [Bool.and_eq_true,show (((e+1085).toNat:Nat):Int)-1085=e by omega,show (((e+1085).toNat:Nat):Int)-1074=e+11 by omega] at c
  unfold pP zP
  rw [if_pos he]
  split
  ·exact c.2
  ·exact c.1
 ·rw [if_neg he] at hd
  have hz:zP e=(11+(-1085-e)).toNat:=by unfold zP;rw [if_neg he]
  have hp:pP m e=324:=by
   unfold pP
   rw [if_neg (fun h=>by omega),hz,show e+(((11+(-1085-e)).toNat:Nat):Int)= -1074 by omega]
   decide
  have c:=ztn1 0 (by decide)
  unfold certS certE at c
  rw [Bool.and_eq_true] at c
  have c:=c.1
  rw [show -zip (((0:Nat):Int)-1074)=324 by decide] at c
  rw [hp]
  have hl:log2P 324=1076:=by decide
  rw [hl] at c ⊢
  obtain ⟨k,hk⟩:∃k:Nat,e= -1085-(k:Int):=⟨(-1085-e).toNat,by omega⟩
  have hz:zP e=11+k:=by rw [hz];omega
  rw [hz,show 11+k-1=10+k by omega] at hd
  obtain ⟨y,rfl⟩:=Nat.dvd_of_mod_eq_zero hd
  have hk0:=Nat.two_pow_pos k
  have ex:2^(10+k)*y=2^k*(1024*y):=by rw [Nat.pow_add,Nat.mul_comm (2^10),Nat.mul_assoc]
  rw [ex] at hx hx1 ⊢
  have es:(-(e+1076+3)).toNat=k+6:=by omega
  have es0:(-(((0:Nat):Int)-1085+1076+3)).toNat=6:=by decide
  rw [es0] at c
  have:=(zmu1 (x:=1024*y) (by decide) (by decide) c (by
   rcases Nat.eq_zero_or_pos y with h | h
   ·subst h;simp at hx
   ·omega) (by
   have:=Nat.mul_le_mul_right (1024*y) hk0
   omega) (by omega)).mul hk0
  rw [es,show 2^128*2^(k+6)=2^k*(2^128*2^6) by rw [Nat.pow_add];ac_rfl]
  rw [Nat.mul_assoc,Nat.mul_assoc (2^k)]
  exact this
theorem zzt1 {m x:Nat} {e:Int} (h0: -1137≤e) (h1:e≤974) (hx:2305843009213693952≤x) (hx1:x<18446744073709551616)
  (hd:x%2^(if -1085≤e then 9 else zP e-1)=0):sclP m e x=zav (4*(x*unitW e 0)) (unitW 0 (-pP m e)):=by
 obtain ⟨p0,p1,s0,s1⟩:=p_in (m:=m) h0 h1
 obtain ⟨t1,t2,t3⟩:=zhv1 p0 p1
 obtain ⟨r1,r2⟩:=zzs1 p0 p1
 have hw:=zqq1 (m:=m) h0 h1 (show 0<x by omega) hx1 hd
 have hB:0<denP (pP m e):=by
  rcases Nat.eq_zero_or_pos (denP (pP m e)) with h | h
  ·rw [h] at r1 r2;omega
  ·exact h
 unfold sclP
 have big:=zdg1 hx t1
 unfold pmP at r1 r2 hw
 rw [zck1 (by omega) hx1 t3 r1 r2 hw big]
 have hl: -1200≤log2P (pP m e)∧log2P (pP m e)≤1200:=by unfold log2P;omega
 refine zmt1 (Nat.mul_pos hB (Nat.mul_pos (Nat.two_pow_pos _) (Nat.two_pow_pos _))) (zby _ _) ?_
 have e1:=ztp1 (a:=0) (b:= -pP m e) p0 p1 (by decide) (by omega)
 have e2:=zcq (a:=e) (b:=0) (n:=2+128+(-(e+log2P (pP m e)+3)).toNat) (by omega)
 rw [show (0:Int)+127-log2P (pP m e)=e+((2+128+(-(e+log2P (pP m e)+3)).toNat:Nat):Int) by omega,show -pP m e+pP m e=0 by omega,←e2] at e1
 have e3:∀n:Nat,2^(2+128+n)=4*(2^128*2^n):=fun n=>by rw [Nat.pow_add,Nat.pow_add,Nat.mul_assoc]
 rw [e3] at e1
 rw [Nat.mul_assoc,e1]
 generalize 2^128*2^(-(e+log2P (pP m e)+3)).toNat=z
 generalize denP (pP m e)=y
 generalize unitW e 0=E
 ac_rfl
end Lf

namespace Lf
theorem zfv2 (k:Nat):k ||| 1=2*(k / 2)+1:=by
 have h1:=Nat.or_div_two (a:=k) (b:=1)
 have h2:=(Nat.or_mod_two_eq_one (a:=k) (b:=1)).2 (.inr rfl)
 rw [show 1 / 2=0 by decide,Nat.or_zero] at h1
 omega
theorem zbv1 {F G c:Nat} (hG:0<G) (hc:c%2=0):(zav F G≤c↔F≤c*G)∧(zav F G<c↔F<c*G):=by
 have hdm:=Nat.div_add_mod F G
 have hlt:=Nat.mod_lt F hG
 have hk:∀ {a b:Nat},a≤b→G*a≤G*b:=fun h=>Nat.mul_le_mul_left G h
 have hs:∀a:Nat,G*(a+1)=G*a+G:=fun a=>by rw [Nat.mul_add,Nat.mul_one]
 unfold zav
 rw [Nat.mul_comm c]
 by_cases h:G ∣ F
 ·rw [if_pos h,Nat.or_zero]
  have hz:F%G=0:=Nat.mod_eq_zero_of_dvd h
  generalize F / G=k at*
  constructor
  ·constructor
   ·intro h;have:=hk h;omega
   ·intro h;refine Classical.byContradiction fun hn=> ?_
    have:=hk (show c+1≤k by omega);rw [hs] at this;omega
  ·constructor
   ·intro h;have:=hk (show k+1≤c by omega);rw [hs] at this;omega
   ·intro h;refine Classical.byContradiction fun hn=> ?_
    have:=hk (show c≤k by omega);omega
 ·rw [if_neg h,zfv2]
  have hz:F%G≠0:=fun e=>h (Nat.dvd_of_mod_eq_zero e)
  generalize F / G=k at*
  constructor
  ·constructor
   ·intro h;have:=hk (show k+1≤c by omega);rw [hs] at this;omega
   ·intro h;refine Classical.byContradiction fun hn=> ?_
    have:=hk (show c≤k by omega);omega
  ·constructor
   ·intro h;have:=hk (show k+1≤c by omega);rw [hs] at this;omega
   ·intro h;refine Classical.byContradiction fun hn=> ?_
    have:=hk (show c≤k by omega);omega
section
variable {F T U d:Nat}
theorem zbw1 (hT:0<T) (hU:U=zav (4*F) T) (c:Nat):(U≤4*c↔F≤c*T)∧(U<4*c↔F<c*T):=by
 have h:=zbv1 (F:=4*F) (G:=T) (c:=4*c) hT (by omega)
 rw [←hU,Nat.mul_assoc] at h
 omega
theorem zzu1 (hT:0<T) (hU:U=zav (4*F) T) (c:Nat):(U≤4*c+2↔2*F≤2*(c*T)+T)∧(U<4*c+2↔2*F<2*(c*T)+T):=by
 have h:=zbv1 (F:=4*F) (G:=T) (c:=4*c+2) hT (by omega)
 rw [←hU,Nat.add_mul,Nat.mul_assoc] at h
 omega
theorem zzv1 (hT:0<T) (hU:U=zav (4*F) T) (hb:U<18446744073709551000):(zop U false true+3)%18446744073709551616 / 4≤d↔F≤d*T:=by
 have h:=(zbw1 hT hU d).1
 unfold zop
 simp only [Bool.false_eq_true,if_false]
 omega
theorem zdt2 (hT:0<T) (hU:U=zav (4*F) T) (hb:U<18446744073709551000):(zop U true true+3)%18446744073709551616 / 4≤d↔F<d*T:=by
 have h:=(zbw1 hT hU d).2
 unfold zop
 simp only [if_true]
 omega
theorem zvz1 (hT:0<T) (hU:U=zav (4*F) T) (_:U<18446744073709551000):d≤zop U false false / 4↔d*T≤F:=by
 have h:=(zbw1 hT hU d).2
 unfold zop
 simp only [Bool.false_eq_true,if_false]
 omega
theorem zzw1 (hT:0<T) (hU:U=zav (4*F) T) (hb:U<18446744073709551000) (h0:0<U):d≤zop U true false / 4↔d*T<F:=by
 have h:=(zbw1 hT hU d).1
 have e:zop U true false=U-1:=by
  unfold zop
  simp only [if_true,Bool.false_eq_true,if_false]
  clear hU h
  omega
 rw [e]
 clear hU hb
 omega
theorem zhy1 (hT:0<T) (hU:U=zav (4*F) T) (hb:U<18446744073709551000):
  zar1 U=if 2*(F%T)<T∨(2*(F%T)=T∧F / T%2=0) then F / T else F / T+1:=by
 have hdm:=Nat.div_add_mod F T
 have hlt:=Nat.mod_lt F hT
 have h1:=(zbw1 hT hU (F / T)).2
 have h2:=(zbw1 hT hU (F / T+1)).2
 obtain ⟨h3,h4⟩:=zzu1 hT hU (F / T)
 rw [Nat.add_mul,Nat.one_mul] at h2
 rw [Nat.mul_comm T] at hdm
 have e0:zar1 U=(U+1+U / 4%2) / 4:=by
  unfold zar1
  rw [Nat.mod_eq_of_lt (by clear hU h1 h2 h3 h4;omega)]
 rw [e0]
 clear hU hb e0
 generalize F / T=q at*
 generalize F%T=r at*
 generalize q*T=z at*
 have e:U / 4=q:=by omega
 rw [e]
 split<;>omega
end
end Lf

namespace Lf
def inI (lo hi:Nat) (odd:Bool) (X:Nat):Bool:=if odd then decide (lo<X)&&decide (X<hi) else decide (lo≤X)&&decide (X≤hi)
theorem zml {lo hi:Nat} {odd:Bool} {X:Nat}:inI lo hi odd X=true↔(if odd=true then lo<X else lo≤X)∧(if odd=true then X<hi else X≤hi):=by
 unfold inI
 cases odd<;>simp
def pickD (lo hi:Nat) (odd:Bool) (v T:Nat):Nat:=
 if inI lo hi odd (v / T*T)=true∧¬(inI lo hi odd ((v / T+1)*T)=true∧(T<2*(v%T)∨(2*(v%T)=T∧v / T%2=1))) then v / T else v / T+1
def zhz1 (dmin dmax near T:Nat):Nat:=if dmin≤dmax / 10*10 then dmax / 10*(10*T) else if dmin<dmax then near*T else dmin*T
section
variable {lo v hi T dmin dmax near:Nat} {odd:Bool}
theorem zhe2 (hT:0<T) (hlo:lo<v) (hhi:v<hi) (h1:inI lo hi odd (v / T*T)=false) (h2:inI lo hi odd ((v / T+1)*T)=false) (d:Nat):inI lo hi odd (d*T)=false:=by
 rw [Bool.eq_false_iff] at h1 h2 ⊢
 intro h
 rw [Ne,zml] at h1 h2
 rw [zml] at h
 have hdm:=Nat.div_add_mod v T
 have hlt:=Nat.mod_lt v hT
 rw [Nat.mul_comm] at hdm
 rw [Nat.add_mul,Nat.one_mul] at h2
 generalize hq:v / T=q at*
 generalize v%T=ρ at*
 rcases Nat.lt_or_ge q d with hd | hd
 ·have:=Nat.mul_le_mul_right T (show q+1≤d by omega)
  rw [Nat.add_mul,Nat.one_mul] at this
  generalize q*T=a at*
  generalize d*T=b at*
  refine h2 ?_
  cases odd
  ·simp only [Bool.false_eq_true,if_false] at*;omega
  ·simp only [if_true] at*;omega
 ·have:=Nat.mul_le_mul_right T hd
  generalize q*T=a at*
  generalize d*T=b at*
  refine h1 ?_
  cases odd
  ·simp only [Bool.false_eq_true,if_false] at*;omega
  ·simp only [if_true] at*;omega
theorem zwa1 (h2:hi-lo<10*T) (hlo:lo<v) (hhi:v<hi)
  (hmin:∀d,dmin≤d↔if odd=true then lo<d*T else lo≤d*T) (hmax:∀d,d≤dmax↔if odd=true then d*T<hi else d*T≤hi)
  {c:Nat} (hc:inI lo hi odd (c*(10*T))=true):zhz1 dmin dmax near T=c*(10*T):=by
 rw [zml] at hc
 have e:10*c*T=c*(10*T):=by rw [Nat.mul_comm 10,Nat.mul_assoc]
 have a1:=(hmin (10*c)).2 (by rw [e];exact hc.1)
 have a2:=(hmax (10*c)).2 (by rw [e];exact hc.2)
 have a3:dmax / 10=c:=by
  refine Classical.byContradiction fun hn=> ?_
  have:=(hmax (10*c+10)).1 (by omega)
  rw [Nat.add_mul,e] at this
  cases odd
  ·simp only [Bool.false_eq_true,if_false] at*;omega
  ·simp only [if_true] at*;omega
 unfold zhz1
 rw [if_pos (by omega),a3]
theorem zwb1 (hT:0<T) (h1:T≤hi-lo) (hlo:lo<v) (hhi:v<hi)
  (hs:(2*(v-lo)=hi-lo∧(T=hi-lo→v%T=0))∨(3*(v-lo)=hi-lo∧T<hi-lo))
  (hmin:∀d,dmin≤d↔if odd=true then lo<d*T else lo≤d*T) (hmax:∀d,d≤dmax↔if odd=true then d*T<hi else d*T≤hi)
  (hn:near=if 2*(v%T)<T∨(2*(v%T)=T∧v / T%2=0) then v / T else v / T+1)
  (hno:∀c,inI lo hi odd (c*(10*T))=false):zhz1 dmin dmax near T=pickD lo hi odd v T*T∧inI lo hi odd (pickD lo hi odd v T*T)=true:=by
 have hdm:=Nat.div_add_mod v T
 have hlt:=Nat.mod_lt v hT
 rw [Nat.mul_comm] at hdm
 have n0:¬dmin≤dmax / 10*10:=fun h=>by
  have h:=(hmin _).1 h
  have h':=(hmax (dmax / 10*10)).1 (by omega)
  have:=hno (dmax / 10)
  rw [Bool.eq_false_iff,Ne,zml,←Nat.mul_assoc] at this
  exact this ⟨h,h'⟩
 have inn:∀d,inI lo hi odd (d*T)=true↔dmin≤d∧d≤dmax:=fun d=>by rw [zml,hmin,hmax]
 have ex:inI lo hi odd (v / T*T)=true∨inI lo hi odd ((v / T+1)*T)=true:=by
  refine Classical.byContradiction fun h=> ?_
  rw [not_or,Bool.not_eq_true,Bool.not_eq_true] at h
  have no:=zhe2 hT hlo hhi h.1 h.2
  by_cases hw:T=hi-lo
  ·rcases hs with ⟨_,hs⟩ | ⟨_,hs⟩
   ·have hz:=hs hw
    have:=h.1
    rw [Bool.eq_false_iff,Ne,zml] at this
    refine this ?_
    rw [show v / T*T=v by omega]
    cases odd
    ·simp only [Bool.false_eq_true,if_false];omega
    ·simp only [if_true];omega
   ·omega
  ·have:=no (lo / T+1)
   rw [Bool.eq_false_iff,Ne,zml] at this
   have l1:=Nat.div_add_mod lo T
   have l2:=Nat.mod_lt lo hT
   rw [Nat.mul_comm] at l1
   refine this ?_
   rw [Nat.add_mul,Nat.one_mul]
   cases odd
   ·simp only [Bool.false_eq_true,if_false];omega
   ·simp only [if_true];omega
 have pk:pickD lo hi odd v T=v / T∨pickD lo hi odd v T=v / T+1:=by unfold pickD;split<;>simp
 have pin:inI lo hi odd (pickD lo hi odd v T*T)=true:=by
  unfold pickD
  split
  ·rename_i h;exact h.1
  ·rename_i h
   refine Classical.byContradiction fun hh=> ?_
   rcases ex with ex | ex
   ·exact h ⟨ex,fun h'=>hh h'.1⟩
   ·exact hh ex
 refine ⟨?_,pin⟩
 unfold zhz1
 rw [if_neg n0]
 by_cases hd:dmin<dmax
 ·rw [if_pos hd]
  congr 1
  rw [hn]
  unfold pickD
  have m1:=hmin (v / T)
  have m2:=hmin (v / T+1)
  have x1:=hmax (v / T)
  have x2:=hmax (v / T+1)
  have x3:=hmax (v / T+2)
  rw [Nat.add_mul,Nat.one_mul] at m2 x2
  rw [Nat.add_mul] at x3
  simp only [inn] at ex ⊢
  generalize v / T=q at*
  generalize v%T=ρ at*
  generalize q*T=a at*
  clear hno inn pk pin hmin hmax hn
  cases odd
  ·simp only [Bool.false_eq_true,if_false] at*
   split<;>split<;>omega
  ·simp only [if_true] at*
   split<;>split<;>omega
 ·rw [if_neg hd]
  have:=(inn _).1 pin
  rw [show dmin=pickD lo hi odd v T by omega]
end
end Lf

namespace Lf
open Go Go.Proofs
def digC (d:Nat):Value:=.int .u8 ((48+d:Nat):Int)
def digV :Nat→Nat→List Value
 | 0,_=> []
 | n+1,u=>digV n (u / 10)++ [digC (u%10)]
theorem zvn :∀n u,(digV n u).length=n
 | 0,_=>rfl
 | n+1,u=>by rw [digV,List.length_append,zvn n];rfl
theorem zdu2 (n u:Nat):digV (n+2) u=digV n (u / 100)++ [digC (u%100 / 10),digC (u%100%10)]:=by
 rw [digV,digV,Nat.div_div_eq_div_mul,List.append_assoc,show u / 10%10=u%100 / 10 by omega,show u%10=u%100%10 by omega]
 rfl
theorem zwc1 :∀k,k<100→(bl200.getD (2*k) 0).toNat=48+k / 10∧(bl200.getD (2*k+1) 0).toNat=48+k%10:=by decide+kernel
theorem zdv2 {cs:List Value} {i:Nat} (hi:i+2≤cs.length):∃x y,cs.take (i+2)=cs.take i++ [x,y]:=by
 refine ⟨cs[i],cs[i+1],?_⟩
 rw [List.take_add_one,List.take_add_one,List.getElem?_eq_getElem (by omega),List.getElem?_eq_getElem (by omega),List.append_assoc]
 rfl
theorem zhf2 {cs suf T:List Value} {i:Nat} {v0 v1:Value} (hi:i+2≤cs.length):((cs.take (i+2)++suf++T).set (i+1) v1).set i v0=cs.take i++(v0::v1::suf)++T:=by
 obtain ⟨x,y,e⟩:=zdv2 hi
 rw [e]
 have hl:(cs.take i).length=i:=by rw [List.length_take];omega
 generalize cs.take i=P at*
 subst hl
 rw [List.append_assoc,List.append_assoc,List.set_append_right (h:=by omega),List.set_append_right (h:=by omega)]
 simp [show P.length+1-P.length=1 by omega]
section
variable {h:Hp}
theorem zzn {a:Sl} {b o k j:Nat} {X J1 J2:Int} {cs suf T:List Value} {K:Hp→Prop} (hX:X=((2*k:Nat):Int)) (hk:k<100) (ha:a.base=some ⟨b,o,none⟩) (h1:J1=((j+1:Nat):Int)) (h2:J2=(j:Int))
  (hn:j+2≤a.len) (hl:o+j+2≤cs.length) (kb:Blk h b (cs.take (o+(j+2))++suf++T)) (hK:∀h',Mv [b] h [b] h'→Blk h' b (cs.take (o+j)++(digC (k / 10)::digC (k%10)::suf)++T)→K h'):
  ((0:Int)≤IntKind.wrap .u32 (X+1)∧IntKind.wrap .u32 (X+1)<200)∧((0:Int)≤X∧X<200)∧InB a.base a.len J1∧StW h (sat a.base 1 J1) [.int .u8 (((UInt8.toNat (List.getD bl200 (Int.toNat (IntKind.wrap .u32 (X+1))) 0)):Nat):Int)] (fun h2=>
   InB a.base a.len J2∧StW h2 (sat a.base 1 J2) [.int .u8 (((UInt8.toNat (List.getD bl200 (Int.toNat X) 0)):Nat):Int)] K):=by
 subst hX h1 h2
 obtain ⟨g0,g1⟩:=zwc1 k hk
 have e1:IntKind.wrap .u32 (((2*k:Nat):Int)+1)=((2*k+1:Nat):Int):=by rw [zsb];omega
 rw [e1,Int.toNat_natCast,Int.toNat_natCast,g0,g1]
 have s1:sat a.base 1 ((j+1:Nat):Int)=⟨b,o+(j+1),none⟩:=by rw [ha];show Addr.add ⟨b,o,none⟩ _=_;rw [box_add];simp
 have s2:sat a.base 1 (j:Int)=⟨b,o+j,none⟩:=by rw [ha];show Addr.add ⟨b,o,none⟩ _=_;rw [box_add];simp
 rw [s1,s2]
 have tl:(cs.take (o+(j+2))).length=o+j+2:=by rw [List.length_take];omega
 refine ⟨⟨by omega,by omega⟩,⟨by omega,by omega⟩,⟨by rw [ha];simp,by omega,by omega⟩,put1 kb (by rw [List.length_append,List.length_append,tl];omega) fun h1 m1 k1=>⟨⟨by rw [ha];simp,by omega,by omega⟩,put1 k1 (by rw [List.length_set,List.length_append,List.length_append,tl];omega) fun h2 m2 k2=>hK h2 (m1.trans m2) ?_⟩⟩
 have e2:=zhf2 (cs:=cs) (suf:=suf) (T:=T) (i:=o+j) (v0:=digC (k / 10)) (v1:=digC (k%10)) (by omega)
 rw [←e2]
 exact k2
theorem tmodN {x y:Nat}:Int.tmod (x:Int) (y:Int)=((x%y:Nat):Int):=by rw [Int.tmod_eq_emod_of_nonneg (by omega)];rfl
theorem tdivN {x y:Nat}:Int.tdiv (x:Int) (y:Int)=((x / y:Nat):Int):=by rw [Int.tdiv_eq_ediv_of_nonneg (by omega)];rfl
theorem zfb1 (j:Nat) {v k:Nat} (h:v<10^(j+k)):v / 10^k<10^j:=by
 rw [Nat.div_lt_iff_lt_mul (Nat.pow_pos (by decide)),←Nat.pow_add]
 exact h
theorem zmv1 {a:Sl} {b o u:Nat} {cs:List Value} {Q:Hp→Prop} (ha:a.base=some ⟨b,o,none⟩) (hl:o+a.len≤cs.length) (ha64:a.len<1000000) (kb:Blk h b cs) (hu:u<10^a.len) (hu64:u<18446744073709551616)
  (hk:∀h',Mv [b] h [b] h'→Blk h' b (cs.take o++digV a.len u++cs.drop (o+a.len))→Q h'):zdn Tryz.prog a u Q h:=by
 unfold zdn
 have step:∀ {v:Nat} {suf:List Value} (j:Nat),digV a.len u=digV (j+2) v++suf→digV a.len u=digV j (v / 100)++(digC (v%100 / 10)::digC (v%100%10)::suf):=fun {v suf} j e=>by
  rw [e,zdu2,List.append_assoc];rfl
 refine LoopW2.intro (fun u1 nd k=>∃(v j:Nat) (suf:List Value),u1=(v:Int)∧nd=(j:Int)∧j≤a.len∧v<10^j∧v<18446744073709551616∧Mv [b] h [b] k∧Blk k b (cs.take (o+j)++suf++cs.drop (o+a.len))∧digV a.len u=digV j v++suf) (fun u1 nd k=>nd.toNat)
  ⟨u,a.len,[],rfl,rfl,Nat.le_refl _,hu,hu64,Mv.refl _ _,by rw [List.append_nil,List.take_append_drop];exact kb,(List.append_nil _).symm⟩ ?_
 rintro u1 nd k ⟨v,j,suf,rfl,rfl,hj,hv,hv64,mv,kb,hd⟩
 by_cases h8:8≤j
 ·obtain ⟨i,rfl⟩:∃i,j=i+8:=⟨j-8,by omega⟩
  refine iteT (decide_eq_true (by omega)) ⟨by decide,by decide,by decide,by decide,by decide,by decide,by decide,by decide,?_⟩
  have e0:IntKind.wrap .u32 (Int.tmod (v:Int) 100000000)=((v%100000000:Nat):Int):=by rw [show (100000000:Int)=((100000000:Nat):Int) from rfl,tmodN,zsb];omega
  have e1:Int.tmod ((v%100000000:Nat):Int) 10000=((v%10000:Nat):Int):=by rw [show (10000:Int)=((10000:Nat):Int) from rfl,tmodN,show v%100000000%10000=v%10000 by omega]
  have e2:IntKind.wrap .u32 (Int.tdiv ((v%100000000:Nat):Int) 10000)=((v / 10000%10000:Nat):Int):=by rw [show (10000:Int)=((10000:Nat):Int) from rfl,tdivN,zsb];omega
  have m1:∀ {w:Nat},IntKind.wrap .u32 ((Int.tmod (w:Int) 100)*2)=((2*(w%100):Nat):Int):=fun {w}=>by rw [show (100:Int)=((100:Nat):Int) from rfl,tmodN,zsb];omega
  have m2:∀ {w:Nat},w<10000→IntKind.wrap .u32 (IntKind.wrap .u32 (Int.tdiv (w:Int) 100)*2)=((2*(w / 100):Nat):Int):=fun {w} hw=>by rw [show (100:Int)=((100:Nat):Int) from rfl,tdivN,zsb,zsb];omega
  rw [e0,e1,e2,m1,m1,m2 (by omega),m2 (by omega)]
  have w:∀ {c:Int} {n:Nat},(i+8:Nat)-c=(n:Int)→n<1000000→IntKind.wrap .i64 (((i+8:Nat):Int)-c)=(n:Int):=fun {c n} e hn=>by rw [e,zae (by omega) (by omega)]
  refine zzn (k:=v%10000%100) (j:=i+6) rfl (by omega) ha (w (by omega) (by omega)) (w (by omega) (by omega)) (by omega) (by omega) kb fun h1 n1 b1=> ?_
  have d1:=step (i+6) hd
  refine zzn (k:=v%10000 / 100) (j:=i+4) rfl (by omega) ha (w (by omega) (by omega)) (w (by omega) (by omega)) (by omega) (by omega) b1 fun h2 n2 b2=> ?_
  have d2:=step (i+4) d1
  refine zzn (k:=v / 10000%10000%100) (j:=i+2) rfl (by omega) ha (w (by omega) (by omega)) (w (by omega) (by omega)) (by omega) (by omega) b2 fun h3 n3 b3=> ?_
  have d3:=step (i+2) d2
  refine zzn (k:=v / 10000%10000 / 100) (j:=i) rfl (by omega) ha (w (by omega) (by omega)) (w (by omega) (by omega)) (by omega) (by omega) b3 fun h4 n4 b4=> ?_
  have d4:=step i d3
  have q0:v%10000%100=v%100:=by omega
  have q1:v%10000 / 100=v / 100%100:=by omega
  have q2:v / 10000%10000%100=v / 100 / 100%100:=by omega
  have q3:v / 10000%10000 / 100=v / 100 / 100 / 100%100:=by omega
  rw [q0,q1,q2,q3] at b4
  have e8:IntKind.wrap .u64 (Int.tdiv (v:Int) 100000000)=((v / 100 / 100 / 100 / 100:Nat):Int):=by rw [show (100000000:Int)=((100000000:Nat):Int) from rfl,tdivN,wrapN (by omega)];omega
  rw [e8,w (n:=i) (by omega) (by omega)]
  have hlt:=zfb1 i (k:=8) hv
  refine ⟨⟨_,i,_,rfl,rfl,by omega,?_,by omega,mv.trans (n1.trans (n2.trans (n3.trans n4))),b4,d4⟩,?_⟩
  ·rw [show v / 100 / 100 / 100 / 100=v / 10^8 by omega]
   exact hlt
  ·omega
 ·refine iteF (fun hh=>h8 (by have:=of_decide_eq_true hh;omega)) ?_
  have v7:v<10000000:=Nat.lt_of_lt_of_le hv (Nat.pow_le_pow_right (n:=10) (i:=j) (j:=7) (by decide) (by omega))
  have m1:∀ {w:Nat},IntKind.wrap .u32 ((Int.tmod (w:Int) 100)*2)=((2*(w%100):Nat):Int):=fun {w}=>by rw [show (100:Int)=((100:Nat):Int) from rfl,tmodN,zsb];omega
  have m2:∀ {w:Nat},w<10000→IntKind.wrap .u32 (IntKind.wrap .u32 (Int.tdiv (w:Int) 100)*2)=((2*(w / 100):Nat):Int):=fun {w} hw=>by rw [show (100:Int)=((100:Nat):Int) from rfl,tdivN,zsb,zsb];omega
  have eu:IntKind.wrap .u32 (v:Int)=(v:Int):=by rw [zsb];omega
  rw [eu]
  have w:∀ {j:Nat} {c:Int} {n:Nat},(j:Int)-c=(n:Int)→n<1000000→IntKind.wrap .i64 ((j:Int)-c)=(n:Int):=fun {j c n} e hn=>by rw [e,zae (by omega) (by omega)]
  refine JoinW2.intro (fun nd x k=>∃(v j:Nat) (suf:List Value),x=(v:Int)∧nd=(j:Int)∧j<4∧j≤a.len∧v<10^j∧Mv [b] h [b] k∧Blk k b (cs.take (o+j)++suf++cs.drop (o+a.len))∧digV a.len u=digV j v++suf) ?_ ?_
  ·by_cases h4:4≤j
   ·obtain ⟨i,rfl⟩:∃i,j=i+4:=⟨j-4,by omega⟩
    refine iteT (decide_eq_true (by omega)) ⟨by decide,by decide,by decide,by decide,?_⟩
    have e1:Int.tmod (v:Int) 10000=((v%10000:Nat):Int):=by rw [show (10000:Int)=((10000:Nat):Int) from rfl,tmodN]
    rw [e1,m1,m2 (by omega)]
    refine zzn (k:=v%10000%100) (j:=i+2) rfl (by omega) ha (w (by omega) (by omega)) (w (by omega) (by omega)) (by omega) (by omega) kb fun h1 n1 b1=> ?_
    have d1:=step (i+2) hd
    refine zzn (k:=v%10000 / 100) (j:=i) rfl (by omega) ha (w (by omega) (by omega)) (w (by omega) (by omega)) (by omega) (by omega) b1 fun h2 n2 b2=> ?_
    have d2:=step i d1
    have q0:v%10000%100=v%100:=by omega
    have q1:v%10000 / 100=v / 100%100:=by omega
    rw [q0,q1] at b2
    have e8:IntKind.wrap .u32 (Int.tdiv (v:Int) 10000)=((v / 100 / 100:Nat):Int):=by rw [show (10000:Int)=((10000:Nat):Int) from rfl,tdivN,zsb];omega
    have hlt:=zfb1 i (k:=4) hv
    rw [e8,w (n:=i) (by omega) (by omega)]
    refine ⟨_,i,_,rfl,rfl,by omega,by omega,?_,mv.trans (n1.trans n2),b2,d2⟩
    rw [show v / 100 / 100=v / 10^4 by omega]
    exact hlt
   ·exact iteF (fun hh=>h4 (by have:=of_decide_eq_true hh;omega)) ⟨v,j,suf,rfl,rfl,by omega,hj,hv,mv,kb,hd⟩
  ·clear v7 eu kb hd mv hv hv64 hj h8 v j suf
   rintro nd x k1 ⟨v,j,suf,rfl,rfl,hj4,hj,hv,mv,kb,hd⟩
   have v3:v<1000:=Nat.lt_of_lt_of_le hv (Nat.pow_le_pow_right (n:=10) (i:=j) (j:=3) (by decide) (by omega))
   refine JoinW2.intro (fun nd x k=>∃(v j:Nat) (suf:List Value),x=(v:Int)∧nd=(j:Int)∧j<2∧j≤a.len∧v<10^j∧Mv [b] h [b] k∧Blk k b (cs.take (o+j)++suf++cs.drop (o+a.len))∧digV a.len u=digV j v++suf) ?_ ?_
   ·by_cases h2:2≤j
    ·obtain ⟨i,rfl⟩:∃i,j=i+2:=⟨j-2,by omega⟩
     refine iteT (decide_eq_true (by omega)) ⟨by decide,by decide,?_⟩
     rw [m1]
     refine zzn (k:=v%100) (j:=i) rfl (by omega) ha (w (by omega) (by omega)) (w (by omega) (by omega)) (by omega) (by omega) kb fun h1 n1 b1=> ?_
     have d1:=step i hd
     have e8:IntKind.wrap .u32 (Int.tdiv (v:Int) 100)=((v / 100:Nat):Int):=by rw [show (100:Int)=((100:Nat):Int) from rfl,tdivN,zsb];omega
     have hlt:=zfb1 i (k:=2) hv
     rw [e8,w (n:=i) (by omega) (by omega)]
     exact ⟨_,i,_,rfl,rfl,by omega,by omega,hlt,mv.trans n1,b1,d1⟩
    ·exact iteF (fun hh=>h2 (by have:=of_decide_eq_true hh;omega)) ⟨v,j,suf,rfl,rfl,by omega,hj,hv,mv,kb,hd⟩
   ·clear v3 kb hd mv hv hj4 hj v j suf
    rintro nd x k2 ⟨v,j,suf,rfl,rfl,hj4,hj,hv,mv,kb,hd⟩
    by_cases h0:0<j
    ·obtain rfl:j=1:=by omega
     refine iteT (decide_eq_true (by omega)) ⟨⟨by rw [ha];simp,by omega,by omega⟩,?_⟩
     have s1:sat a.base 1 (0:Int)=⟨b,o,none⟩:=by rw [ha];show Addr.add ⟨b,o,none⟩ _=_;rw [box_add];simp
     have e1:IntKind.wrap .u8 (IntKind.wrap .u32 ((48:Int)+(v:Int)))=((48+v:Nat):Int):=by
      rw [zsb,show IntKind.wrap .u8 ((48+(v:Int))%4294967296)=((48+(v:Int))%4294967296)%256 from rfl]
      omega
     rw [s1,e1]
     have tl:(cs.take (o+1)).length=o+1:=by rw [List.length_take];omega
     refine put1 kb (by rw [List.length_append,List.length_append,tl];omega) fun h3 m3 k3=>hk h3 (mv.trans m3) ?_
     rw [hd,show digV 1 v=[digC v] by rw [digV,digV,Nat.mod_eq_of_lt (by omega)];rfl]
     have e2:(cs.take (o+1)++suf++cs.drop (o+a.len)).set o (digC v)=cs.take o++([digC v]++suf)++cs.drop (o+a.len):=by
      rw [List.take_add_one,List.getElem?_eq_getElem (by omega)]
      have hl':(cs.take o).length=o:=by rw [List.length_take];omega
      generalize cs.take o=P at*
      subst hl'
      simp
     rw [←e2]
     exact k3
    ·obtain rfl:j=0:=by omega
     refine iteF (fun hh=>h0 (by have:=of_decide_eq_true hh;omega)) (hk k2 mv ?_)
     rw [hd]
     simpa [digV] using kb
end
end Lf

namespace Lf
open Go Go.Proofs
theorem ztq1 :∀n,n<256→(bl256.getD n 0).toNat=bitsN n:=by decide+kernel
theorem zzo {n k:Nat} (h:2^k≤n):bitsN n=k+bitsN (n / 2^k):=by
 have hp:=Nat.two_pow_pos k
 have h1:=zqj (n / 2^k)
 have h0:n / 2^k≠0:=fun e=>by rw [Nat.div_eq_zero_iff] at e;omega
 have h2:=zvm h0
 have hb:0<bitsN (n / 2^k):=by unfold bitsN;rw [if_neg h0];omega
 refine zdp2 ?_ fun _=> ?_
 ·rw [Nat.div_lt_iff_lt_mul hp,←Nat.pow_add,Nat.add_comm] at h1
  exact h1
 ·rw [Nat.le_div_iff_mul_le hp,←Nat.pow_add] at h2
  rw [show k+bitsN (n / 2^k)-1=bitsN (n / 2^k)-1+k by omega]
  exact h2
theorem zfw2 {n:Nat} (h1:n<256):IntKind.wrap .u8 (n:Int)=(n:Int):=by
 show (n:Int)%256=n
 omega
theorem zas1 {n k:Nat} (h:n<2^k):bitsN n≤k:=by
 by_cases h0:n=0
 ·subst h0;simp [bitsN]
 ·have:=zvm h0
  have h2:2^(bitsN n-1)<2^k:=Nat.lt_of_le_of_lt this h
  have:=(Nat.pow_lt_pow_iff_right (a:=2) (by decide)).1 h2
  omega
section
variable {h:Hp}
theorem zdh1 {n:Nat} {Q:Int→Hp→Prop} (hn:n<18446744073709551616) (hq:Q (bitsN n:Int) h):zno Tryz.prog (n:Int) Q h:=by
 unfold zno
 refine JoinW2.intro (fun x1 n1 k=>k=h∧∃(m c:Nat),x1=(m:Int)∧n1=(c:Int)∧m<4294967296∧c≤32∧bitsN n=c+bitsN m) ?_ ?_
 ·by_cases hb:(n:Int)≥4294967296
  ·refine iteT (decide_eq_true hb) ⟨by decide,rfl,n / 2^32,32,shrN n (n:=32) (by decide),rfl,?_,by decide,zzo (by omega)⟩
   rw [Nat.div_lt_iff_lt_mul (by decide)]
   omega
  ·exact iteF (fun hh=>hb (of_decide_eq_true hh)) ⟨rfl,n,0,rfl,rfl,by omega,by decide,by omega⟩
 ·rintro x1 n1 k ⟨rfl,m,c,rfl,rfl,hm,hc,he⟩
  refine JoinW2.intro (fun x2 n2 k'=>k'=k∧∃(m c:Nat),x2=(m:Int)∧n2=(c:Int)∧m<65536∧c≤48∧bitsN n=c+bitsN m) ?_ ?_
  ·by_cases hb:(m:Int)≥65536
   ·rw [zae (by omega) (by omega)]
    refine iteT (decide_eq_true hb) ⟨by decide,rfl,m / 2^16,c+16,shrN m (n:=16) (by decide),by omega,?_,by omega,?_⟩
    ·rw [Nat.div_lt_iff_lt_mul (by decide)]
     omega
    ·rw [he,zzo (n:=m) (k:=16) (by omega)]
     omega
   ·exact iteF (fun hh=>hb (of_decide_eq_true hh)) ⟨rfl,m,c,rfl,rfl,by omega,by omega,he⟩
  ·clear he hc hm m c
   rintro x2 n2 k' ⟨rfl,m,c,rfl,rfl,hm,hc,he⟩
   by_cases hb:(m:Int)≥256
   ·have e1:shrI .u64 (m:Int) 8=((m / 2^8:Nat):Int):=shrN m (n:=8) (by decide)
    have hlt:m / 2^8<256:=by
     rw [Nat.div_lt_iff_lt_mul (by decide)]
     omega
    refine iteT (decide_eq_true hb) ⟨by decide,?_⟩
    have hs:=zas1 (k:=8) hlt
    have hb2:=zzo (n:=m) (k:=8) (by omega)
    rw [e1,zfw2 hlt,Int.toNat_natCast,ztq1 _ hlt,zae (n:=(c:Int)+8) (by omega) (by omega),zae (n:=((bitsN (m / 2^8):Nat):Int)) (by omega) (by omega),zae (by omega) (by omega)]
    rw [show (c:Int)+8+((bitsN (m / 2^8):Nat):Int)=(bitsN n:Int) by omega]
    exact ⟨⟨by omega,by omega⟩,hq⟩
   ·have hlt:m<256:=by omega
    have hs:=zas1 (k:=8) hlt
    refine iteF (fun hh=>hb (of_decide_eq_true hh)) ?_
    rw [zfw2 hlt,Int.toNat_natCast,ztq1 _ hlt,zae (n:=((bitsN m:Nat):Int)) (by omega) (by omega),zae (by omega) (by omega)]
    rw [show (c:Int)+((bitsN m:Nat):Int)=(bitsN n:Int) by omega]
    exact ⟨⟨by omega,by omega⟩,hq⟩
abbrev zre (h:Hp):Prop:=LdIs h ⟨5,0,none⟩ ((List.range 20).map fun k=>Value.int .u64 ((10^k:Nat):Int))
theorem zwd1 (t:zre h) {k:Nat} (hk:k<20):LdIs h ⟨5,k,none⟩ [.int .u64 ((10^k:Nat):Int)]:=by
 have c:=t k (.int .u64 ((10^k:Nat):Int)) (by simp [List.getElem?_range hk])
 rw [box_add,Nat.zero_add] at c
 exact zsd c
theorem zwe1 :∀b:Nat,b<65→1≤b→0≤zip (b:Int)∧zip (b:Int)<20∧2^b≤10^((zip (b:Int)).toNat+1)∧(1≤zip (b:Int)→10^((zip (b:Int)).toNat-1)≤2^(b-1)):=by decide+kernel
theorem zkg1 {b:Bool} {Q:Int→Hp→Prop} (hq:Q ((b.toNat:Nat):Int) h):zez Tryz.prog b Q h:=by
 unfold zez
 cases b
 ·exact hq
 ·exact hq
theorem zcl1 {d:Nat} {Q:Int→Hp→Prop} (h0:d≠0) (h1:d<18446744073709551616) (t:zre h) (hk:∀n:Nat,1≤n→n≤20→10^(n-1)≤d→d<10^n→Q (n:Int) h):zew Tryz.prog d Q h:=by
 unfold zew
 have b1:1≤bitsN d:=by unfold bitsN;rw [if_neg h0];omega
 have b2:bitsN d≤64:=zas1 (k:=64) h1
 obtain ⟨l0,l1,l2,l3⟩:=zwe1 (bitsN d) (by omega) b1
 have d1:=zqj d
 have d2:=zvm h0
 refine zgn (zdh1 h1 ?_)
 refine zdo (zkf1 (by omega) (by omega) ⟨⟨l0,l1⟩,?_⟩)
 obtain ⟨k,hk'⟩:∃k:Nat,zip (bitsN d)=k:=⟨_,(Int.toNat_of_nonneg l0).symm⟩
 rw [hk'] at l0 l1 l2 l3 ⊢
 rw [Int.toNat_natCast] at l2 l3 ⊢
 have ea:Addr.add ⟨5,0,none⟩ (k*1)=⟨5,k,none⟩:=by rw [box_add];simp
 rw [ea]
 refine ld_at (sh:=shInt .u64) ((10^k:Nat):Int) (zwd1 t (by omega)) ?_
 refine zdp (zkg1 ?_)
 by_cases hc:10^k≤d
 ·rw [decide_eq_true (by exact Int.ofNat_le.2 hc),zae (by rw [Bool.toNat_true];omega) (by rw [Bool.toNat_true];omega)]
  exact hk (k+1) (by omega) (by omega) hc (Nat.lt_of_lt_of_le d1 l2)
 ·have k1:1≤k:=by
   rcases Nat.eq_zero_or_pos k with e | e
   ·subst e;omega
   ·exact e
  rw [decide_eq_false (fun hh=>hc (Int.ofNat_le.1 hh)),zae (by rw [Bool.toNat_false];omega) (by rw [Bool.toNat_false];omega)]
  have:=hk k k1 (by omega) (Nat.le_trans (l3 (by omega)) d2) (by omega)
  simpa using this
theorem ztr1 :∀(n u i:Nat),i<n→(digV n u)[i]? =some (digC (u / 10^(n-1-i)%10))
 | 0,_,_,h=>by omega
 | n+1,u,i,h=>by
  rw [digV]
  by_cases hi:i<n
  ·rw [List.getElem?_append_left (by rw [zvn];exact hi),ztr1 n (u / 10) i hi,Nat.div_div_eq_div_mul,←Nat.pow_succ',show (n-1-i).succ=n+1-1-i by omega]
  ·rw [List.getElem?_append_right (by rw [zvn];omega),zvn,show i-n=0 by omega,show n+1-1-i=0 by omega]
   simp
theorem zmw1 {s:Sl} {b d n:Nat} {p:Int} {cs:List Value} {Q:Int→Int→Hp→Prop} (hb:s.base=some ⟨b,0,none⟩) (hs:s.len=cs.length) (hc:s.cap=s.len) (hl:s.len<1000000) (kb:Blk h b cs)
  (d0:d≠0) (d1:d<18446744073709551616) (hn:n≤s.len) (hd:d<10^n) (p0: -100000≤p) (p1:p≤100000)
  (hk:∀h' k v,Mv [b] h [b] h'→Blk h' b (digV n d++cs.drop n)→d=v*10^k→v%10≠0→k<n→Q (n+p) ((n-k:Nat):Int) h'):zex Tryz.prog s d p n Q h:=by
 unfold zex
 refine iteT (decide_eq_true (by omega)) ⟨⟨by omega,by omega⟩,letW ?_⟩
 rw [Int.toNat_natCast]
 have eb:sbase s.base 1 0 s.cap=some ⟨b,0,none⟩:=by
  unfold sbase
  rw [hb]
  split
  ·rfl
  ·show some (Addr.add _ _)=_
   rw [box_add]
 rw [eb]
 refine zfm (zmv1 (a:=⟨some ⟨b,0,none⟩,n-0,s.cap-0⟩) rfl (by show 0+(n-0)≤_;omega) (by show n-0<_;omega) kb (by show d<10^(n-0);exact hd) d1 fun h1 mv k1=> ?_)
 have k1:Blk h1 b (digV n d++cs.drop n):=by
  have e:cs.take 0++digV (n-0) d++cs.drop (0+(n-0))=digV n d++cs.drop n:=by simp
  rw [←e]
  exact k1
 have nz:∀ {v k:Nat},d=v*10^k→v≠0:=fun {v k} e e0=>d0 (by rw [e,e0,Nat.zero_mul])
 have lt:∀ {v k:Nat},d=v*10^k→k≤n→k<n:=fun {v k} e hk'=>by
  rcases Nat.lt_or_ge k n with hlt | hge
  ·exact hlt
  ·have:k=n:=by omega
   subst this
   have:=nz e
   have h2:1*10^k≤v*10^k:=Nat.mul_le_mul_right _ (by omega)
   omega
 refine LoopW1.intro (fun nd k=>k=h1∧∃(j v:Nat),nd=((n-j:Nat):Int)∧j≤n∧d=v*10^j) (fun nd _=>nd.toNat) ⟨rfl,0,d,rfl,by omega,by simp⟩ ?_
 rintro nd k ⟨rfl,j,v,rfl,hj,hv⟩
 have hjn:=lt hv hj
 have hpos:((n-j:Nat):Int)>0:=by omega
 rw [decide_eq_true hpos]
 have e1:IntKind.wrap .i64 (((n-j:Nat):Int)-1)=((n-j-1:Nat):Int):=by rw [zae (by omega) (by omega)];omega
 rw [e1]
 have ea:sat s.base 1 ((n-j-1:Nat):Int)=⟨b,n-j-1,none⟩:=by rw [hb];show Addr.add ⟨b,0,none⟩ _=_;rw [box_add];simp
 rw [ea]
 have hcell:((digV n d++cs.drop n).drop (n-j-1)).take 1=[digC (v%10)]:=by
  have hg:=ztr1 n d (n-j-1) (by omega)
  rw [show n-1-(n-j-1)=j by omega,hv,Nat.mul_div_cancel _ (Nat.pow_pos (by decide)),←hv] at hg
  have hg2:(digV n d++cs.drop n)[n-j-1]? =some (digC (v%10)):=by rw [List.getElem?_append_left (by rw [zvn];omega)];exact hg
  rw [List.take_one,List.head?_drop,hg2]
  rfl
 refine ⟨fun _=>⟨by rw [hb];simp,by omega,by omega⟩,((48+v%10:Nat):Int),fun _=>k1.ldIs hcell,letW ?_⟩
 rw [Bool.true_and]
 by_cases hz:v%10=0
 ·refine iteT (by rw [hz];rfl) ⟨⟨rfl,j+1,v / 10,?_,by omega,?_⟩,?_⟩
  ·exact congrArg Nat.cast (show n-j-1=n-(j+1) by omega)
  ·rw [hv,Nat.pow_succ',←Nat.mul_assoc,Nat.div_mul_cancel (Nat.dvd_of_mod_eq_zero hz)]
  ·omega
 ·refine iteF (fun hh=>hz (by have:((48+v%10:Nat):Int)=48:=beq_iff_eq.1 hh;omega)) ?_
  rw [zae (by omega) (by omega)]
  exact hk k j v mv k1 hv hz hjn
end
end Lf

namespace Lf
open Go Go.Proofs
def eN (n:Nat):List Value:=[.int .u8 (n:Int)]
theorem zyj (n:Nat):(eN n).length=1:=rfl
theorem eN_ok (n:Nat):zfn (eN n)=true:=rfl
theorem zia1 :∀ds:List Nat,(ds.map fun (c:Nat)=>Value.int .u8 (c:Int))=ds.flatMap eN
 | []=>rfl
 | c::ds=>by rw [List.map_cons,zia1 ds,List.flatMap_cons];rfl
def expL (n:Nat):List Nat:=if n<10 then [48,48+n] else if n<100 then [48+n / 10,48+n%10] else [48+n / 100,48+n / 10%10,48+n%10]
def sciL (neg:Bool) (d:Nat) (ds:List Nat) (e:Int):List Nat:=
 (if neg then [45] else [])++ [d]++(if ds=[] then [] else 46::ds)++ [101,if e<0 then 45 else 43]++expL e.natAbs
section
variable {h0 h:Hp}
abbrev ON (h0 h:Hp) (l:Sl) (xs:List Nat):Prop:=Own h0 h 1 eN l xs
theorem app1 {l:Sl} {xs:List Nat} {v:Int} {c:Nat} {K:Sl→Hp→Prop} (hw:h0≤h) (o:ON h0 h l xs) (hv:v=(c:Int)) (hb:xs.length<1000000) (hk:∀l' h',h0≤h'→ON h0 h' l' (xs++ [c])→K l' h'):
  NewW [.int .u8 v] (fun a h2=>zbw 1 1 [.int .u8 (0:Int)] l ⟨some a,1,1⟩ K h2) h:=by
 subst hv
 exact zbu1 hw o (ys:=[c]) rfl rfl zyj eN_ok rfl (by simp only [List.length_singleton];omega) fun l' h' a b _=>hk l' h' a b
theorem app2 {l:Sl} {xs:List Nat} {v w:Int} {c d:Nat} {K:Sl→Hp→Prop} (hw:h0≤h) (o:ON h0 h l xs) (hv:v=(c:Int)) (hv2:w=(d:Int)) (hb:xs.length<1000000) (hk:∀l' h',h0≤h'→ON h0 h' l' (xs++ [c,d])→K l' h'):
  NewW [.int .u8 v,.int .u8 w] (fun a h2=>zbw 1 1 [.int .u8 (0:Int)] l ⟨some a,2,2⟩ K h2) h:=by
 subst hv hv2
 exact zbu1 hw o (ys:=[c,d]) rfl rfl zyj eN_ok rfl (by simp only [List.length_cons,List.length_nil];omega) fun l' h' a b _=>hk l' h' a b
theorem app3 {l:Sl} {xs:List Nat} {v w z:Int} {c d e:Nat} {K:Sl→Hp→Prop} (hw:h0≤h) (o:ON h0 h l xs) (hv:v=(c:Int)) (hv2:w=(d:Int)) (hv3:z=(e:Int)) (hb:xs.length<1000000) (hk:∀l' h',h0≤h'→ON h0 h' l' (xs++ [c,d,e])→K l' h'):
  NewW [.int .u8 v,.int .u8 w,.int .u8 z] (fun a h2=>zbw 1 1 [.int .u8 (0:Int)] l ⟨some a,3,3⟩ K h2) h:=by
 subst hv hv2 hv3
 exact zbu1 hw o (ys:=[c,d,e]) rfl rfl zyj eN_ok rfl (by simp only [List.length_cons,List.length_nil];omega) fun l' h' a b _=>hk l' h' a b
theorem byte8 (x:Int):IntKind.wrap .u8 x=x%256:=rfl
theorem zji2 {dst s:Sl} {xs:List Nat} {b:Nat} {cs:List Value} {neg:Bool} {d:Nat} {ds:List Nat} {dp nd prec:Int} {Q:Sl→Hp→Prop} (hw:h0≤h) (o:ON h0 h dst xs) (hx:xs.length<1000) (hb:s.base=some ⟨b,0,none⟩) (kb:Blk h0 b cs)
  (hs:s.len=cs.length) (hc:s.cap=s.len) (hl:s.len<1000) (hn:nd=((ds.length+1:Nat):Int)) (hcs:cs.take (ds.length+1)=(d::ds).map fun (c:Nat)=>Value.int .u8 (c:Int)) (hp:prec=ds.length) (p0: -999<dp) (p1:dp<1000)
  (hk:∀r h',h0≤h'→ON h0 h' r (xs++sciL neg d ds (dp-1))→Q r h'):zcf Tryz.prog dst neg s dp nd prec (101:Int) true Q h:=by
 have hlen:ds.length+1≤cs.length:=by
  have:=congrArg List.length hcs
  simp only [List.length_take,List.length_map,List.length_cons] at this
  omega
 unfold zcf
 refine JoinW2.direct (letW (iteF (by decide) ?_))
 refine JoinW1.direct (iteT (by decide) (iteT (by decide) ?_))
 refine JoinW1.intro (fun l k=>h0≤k∧ON h0 k l (xs++if neg then [45] else [])) ?_ ?_
 ·cases neg with
  | true=>exact iteT rfl (app1 hw o (c:=45) rfl (by omega) fun l' h' a b=>⟨a,b⟩)
  | false=>exact iteF (by decide) ⟨hw,by simpa using o⟩
 rintro l1 k1 ⟨w1,o1⟩
 have len1:(xs++if neg then [45] else []).length<1002:=by cases neg<;>simp<;>omega
 refine JoinW1.intro (fun c k=>k=k1∧c=(d:Int)) ?_ ?_
 ·refine iteT (by rw [hn];exact bne_iff_ne.2 (by omega)) ⟨⟨by rw [hb];simp,by omega,by omega⟩,ld_at (sh:=shInt .u8) (d:Int) ?_ ⟨rfl,rfl⟩⟩
  have e:sat s.base 1 (0:Int)=⟨b,0,none⟩:=by rw [hb];show Addr.add ⟨b,0,none⟩ _=_;rw [box_add];rfl
  rw [e]
  refine (kb.le w1).ldIs (n:=1) ?_
  show List.take 1 (List.drop 0 cs)=[Value.int .u8 (d:Int)]
  have:=congrArg (List.take 1) hcs
  rw [List.take_take,show min 1 (ds.length+1)=1 by omega] at this
  simpa using this
 rintro _ k1 ⟨rfl,rfl⟩
 refine app1 w1 o1 rfl (by omega) fun l2 k2 w2 o2=> ?_
 refine JoinW1.intro (fun l k=>h0≤k∧ON h0 k l (xs++(if neg then [45] else [])++ [d]++if ds=[] then [] else 46::ds)) ?_ ?_
 ·rw [hp]
  by_cases hds:ds=[]
  ·exact iteF (by rw [hds];decide) ⟨w2,by rw [if_pos hds];simpa using o2⟩
  ·have hd1:1≤ds.length:=by
    cases ds with
    | nil=>exact absurd rfl hds
    | cons _ _=>simp
   refine iteT (decide_eq_true (by omega)) (app1 w2 o2 (c:=46) rfl (by rw [List.length_append];simp only [List.length_singleton];omega) fun l3 k3 w3 o3=> ?_)
   have emin:min2I nd (IntKind.wrap .i64 ((ds.length:Int)+(1:Int)))=((ds.length+1:Nat):Int):=by
    rw [zae (by omega) (by omega),hn]
    unfold min2I
    split<;>omega
   rw [emin]
   refine JoinW2.intro (fun l i k=>h0≤k∧i=((ds.length+1:Nat):Int)∧ON h0 k l (xs++(if neg then [45] else [])++ [d]++46::ds)) ?_ ?_
   ·refine iteT (decide_eq_true (by omega)) ⟨⟨by decide,by omega,by omega⟩,letW ?_⟩
    rw [Int.toNat_natCast]
    have hrow:Rw k3 1 eN ⟨sbase s.base 1 1 s.cap,ds.length+1-1,s.cap-1⟩ ds:=by
     refine ⟨by show ds.length+1-1=_;omega,?_⟩
     have eb:sbase s.base 1 1 s.cap=some ⟨b,1,none⟩:=by
      unfold sbase
      rw [hb,if_neg (by omega)]
      show some (Addr.add _ _)=_
      rw [box_add]
     show zwi k3 (sbase s.base 1 1 s.cap) (ds.length*1) (ds.flatMap eN)
     rw [eb]
     refine (kb.le w3).rd (by rw [zfv zyj]) ?_
     have:=congrArg (List.drop 1) hcs
     rw [List.drop_take,Nat.add_sub_cancel] at this
     rw [Nat.mul_one,this]
     simp only [List.map_cons,List.drop_succ_cons,List.drop_zero]
     exact zia1 ds
    refine zpr1 w3 o3 hrow zyj eN_ok rfl (by rw [List.length_append,List.length_append];simp only [List.length_singleton];omega) fun l4 k4 w4 o4 _=>⟨w4,rfl,?_⟩
    simpa using o4
   ·rintro l4 i k4 ⟨w4,rfl,o4⟩
    refine LoopW2.intro (fun l t k=>l=l4∧t=0∧k=k4) (fun _ _ _=>0) ⟨rfl,rfl,rfl⟩ ?_
    rintro _ _ _ ⟨rfl,rfl,rfl⟩
    refine iteF (fun hh=> ?_) ⟨w4,by rw [if_neg hds];exact o4⟩
    have:=of_decide_eq_true hh
    rw [zae (n:=(ds.length:Int)+1) (by omega) (by omega),zae (by omega) (by omega)] at this
    omega
 rintro l3 k3 ⟨w3,o3⟩
 have len3:(xs++(if neg then [45] else [])++ [d]++if ds=[] then [] else 46::ds).length<5000:=by
  rw [List.length_append,List.length_append]
  have:(if ds=[] then [] else 46::ds).length≤ds.length+1:=by split<;>simp
  simp only [List.length_singleton]
  omega
 refine app1 w3 o3 (c:=101) rfl (by omega) fun l4 k4 w4 o4=> ?_
 refine JoinW1.intro (fun e k=>k=k4∧e=dp-1) (iteF (by rw [hn];intro hh;have:=beq_iff_eq.1 hh;omega) ⟨rfl,zae (by omega) (by omega)⟩) ?_
 rintro _ k4 ⟨rfl,rfl⟩
 refine JoinW2.intro (fun c e k=>k=k4∧c=((if dp-1<0 then 45 else 43:Nat):Int)∧e=((dp-1).natAbs:Int)) ?_ ?_
 ·by_cases hneg:dp-1<0
  ·refine iteT (decide_eq_true hneg) ⟨rfl,by rw [if_pos hneg];rfl,?_⟩
   rw [zae (by omega) (by omega)]
   omega
  ·exact iteF (fun hh=>hneg (of_decide_eq_true hh)) ⟨rfl,by rw [if_neg hneg];rfl,by omega⟩
 rintro _ _ k4 ⟨rfl,rfl,rfl⟩
 refine app1 w4 o4 rfl (by rw [List.length_append,List.length_singleton];omega) fun l5 k5 w5 o5=> ?_
 have fin:∀ {r:Sl} {k:Hp} {zs:List Nat},h0≤k→zs=expL (dp-1).natAbs→ON h0 k r (xs++(if neg then [45] else [])++ [d]++(if ds=[] then [] else 46::ds)++ [101]++ [if dp-1<0 then 45 else 43]++zs)→Q r k:=fun {r k zs} w e o'=>hk r k w (by
  subst e
  unfold sciL
  simpa using o')
 have len5:(xs++(if neg then [45] else [])++ [d]++(if ds=[] then [] else 46::ds)++ [101]++ [if dp-1<0 then 45 else 43]).length<1000000:=by
  rw [List.length_append,List.length_append,List.length_singleton,List.length_singleton]
  omega
 have he:(dp-1).natAbs<1000:=by omega
 generalize (dp-1).natAbs=e at*
 unfold expL at fin
 by_cases c1:e<10
 ·refine iteT (decide_eq_true (by omega)) (app2 w5 o5 (c:=48) (d:=48+e) rfl (by rw [byte8,byte8];omega) len5 fun r k w o'=>fin w (by rw [if_pos c1]) o')
 ·refine iteF (fun hh=>c1 (by have:=of_decide_eq_true hh;omega)) ?_
  rw [if_neg c1] at fin
  have t10:∀ {x:Nat},Int.tdiv (x:Int) (10:Int)=((x / 10:Nat):Int):=tdivN
  have t100:∀ {x:Nat},Int.tdiv (x:Int) (100:Int)=((x / 100:Nat):Int):=tdivN
  have m10:∀ {x:Nat},Int.tmod (x:Int) (10:Int)=((x%10:Nat):Int):=tmodN
  by_cases c2:e<100
  ·refine iteT (decide_eq_true (by omega)) ⟨by decide,by decide,app2 w5 o5 (c:=48+e / 10) (d:=48+e%10) ?_ ?_ len5 fun r k w o'=>fin w (by rw [if_pos c2]) o'⟩
   ·rw [t10,byte8,byte8,zae (by omega) (by omega)];omega
   ·rw [m10,byte8,byte8];omega
  ·rw [if_neg c2] at fin
   refine iteF (fun hh=>c2 (by have:=of_decide_eq_true hh;omega)) ⟨by decide,by decide,by decide,by decide,app3 w5 o5 (c:=48+e / 100) (d:=48+e / 10%10) (e:=48+e%10) ?_ ?_ ?_ len5 fun r k w o'=>fin w rfl o'⟩
   ·rw [t100,byte8,byte8,zae (by omega) (by omega)];omega
   ·rw [t10,zae (by omega) (by omega),byte8 ((e / 10:Nat):Int),show ((e / 10:Nat):Int)%256=((e / 10:Nat):Int) by omega,m10,byte8];omega
   ·rw [m10,byte8,byte8];omega
end
end Lf

namespace Lf
open Go Go.Proofs
section
variable {P:Program} {h:Hp}
theorem zhg2 {P:Program} {s:Sem Value} {sh:Shape} {K:sh.T→Hp→Prop} {h:Hp} (hs:semW P s (fun v h'=>∃x,v=sh.enc x∧K x h') h):SemE P s sh K h:=hs
theorem zxu {op : BinOp} {t : Nat} {x y : Operand} {a b : Nat} {r : Option Nat} {K : Nat → Hp → Prop} (he : binS op t x y (.float .f64 a) (.float .f64 b) = (match r with
      | some r=>Sem.pure (Value.float .f64 r)
      | none=>Sem.bind (choose (.nanBits .f64 a b)) fun n=>Sem.pure (Value.float .f64 n)))
  (hk:∀f,(∀v,r=some v→f=v)→(r=none→isNaN f=true)→K f h):SemE P (binS op t x y (.float .f64 a) (.float .f64 b)) (shFlt .f64) K h:=by
 refine zhg2 ?_
 rw [he]
 cases r with
 | some r=>exact ⟨r,rfl,hk r (fun v e=>(Option.some.inj e)) fun e=>by cases e⟩
 | none=>
  intro n
  exact ⟨_,rfl,hk _ (fun v e=>by cases e) fun _=>zgy2 a b n⟩
theorem zqr1 {t : Nat} {x y : Operand} {a b : Nat} : binS .mul t x y (.float .f64 a) (.float .f64 b) = (match f64.format.mul a b with
      | some r=>Sem.pure (Value.float .f64 r)
      | none=>Sem.bind (choose (.nanBits .f64 a b)) fun n=>Sem.pure (Value.float .f64 n)):=by
 cases e:f64.format.mul a b<;>(show Op.floatArith .mul .f64 a b=_;unfold Op.floatArith;simp only [pure,bind,Sem.bind,e])
theorem zhh2 {t : Nat} {x y : Operand} {a b : Nat} : binS .quo t x y (.float .f64 a) (.float .f64 b) = (match f64.format.div a b with
      | some r=>Sem.pure (Value.float .f64 r)
      | none=>Sem.bind (choose (.nanBits .f64 a b)) fun n=>Sem.pure (Value.float .f64 n)):=by
 cases e:f64.format.div a b<;>(show Op.floatArith .quo .f64 a b=_;unfold Op.floatArith;simp only [pure,bind,Sem.bind,e])
theorem zhy {s:Sem Value} {sh:Shape} {v:sh.T} {K:sh.T→Prop} (he:s=Sem.pure (sh.enc v)) (hk:K v):SemV none P s sh h K:=by
 refine ⟨v,zaa1 ?_,hk⟩
 rw [he]
 exact ⟨rfl,rfl⟩
theorem zkh1 {b:Int} {Q:Nat→Hp→Prop} (hq:Q (zht1 b) h):zyz Tryz.prog b Q h:=by
 unfold zyz
 exact ⟨_,rfl,hq⟩
end
end Lf

namespace Lf
open Go Go.Proofs
def strN (xs:List Nat):ByteArray:=⟨(xs.map UInt8.ofNat).toArray⟩
theorem zrf {P:Program} {src dst e:TypeId} {h:Hp} {l:Sl} {xs:List Nat} (hs:P.underlying src=some (.slice e)) (he:P.underlying e=some (.int .u8)) (hd:P.underlying dst=some .string) (r:Rw h 1 eN l xs) (hx:∀x∈xs,x<256):SemIs P (convert src dst l.v) h (.string (strN xs)):=fun w hw=>by
 refine ⟨w,?_,.refl hw⟩
 obtain ⟨h1,h3⟩:=r
 obtain ⟨-,h3⟩:=h3
 rw [Nat.mul_one] at h3
 have nilc:l.base=none→xs.length=0:=fun hb=>by
  rcases h3 with h3 | ⟨a,ha,_⟩
  ·exact h3
  ·rw [hb] at ha;cases ha
 unfold Sl.v strN
 have hlen:(xs.map UInt8.ofNat).length=xs.length:=List.length_map ..
 cases hb:l.base with
 | none=>
  have:xs=[]:=List.length_eq_zero_iff.1 (nilc hb)
  subst this
  rw [run_convert_bytes_string w src dst e none l.len l.cap hs he hd]
  rfl
 | some a=>
  rw [h1,←hlen]
  refine run_convert_bytes_back w src dst e a l.cap (xs.map UInt8.ofNat) hs he hd fun j hj=> ?_
  rcases h3 with h3 | ⟨a',ha,hl⟩
  ·omega
  ·rw [hb] at ha;cases ha
   have hj':j<xs.length:=by omega
   have e1:((xs.map UInt8.ofNat)[j]'hj).toNat=xs[j]:=by
    rw [List.getElem_map,UInt8.toNat_ofNat']
    have:=hx _ (List.getElem_mem hj')
    omega
   have:(xs.flatMap eN)[j]? =some (.int .u8 (((xs.map UInt8.ofNat)[j]'hj).toNat:Int)):=by
    rw [←zia1,List.getElem?_map,List.getElem?_eq_getElem hj',e1];rfl
   have hc:=hl j _ this
   rw [←zkk]
   exact zxr (fun b o e=>hw b o e) hc
def digL :Nat→Nat→List Nat
 | 0,_=> []
 | n+1,u=>digL n (u / 10)++ [48+u%10]
theorem zmm :∀n u,(digL n u).length=n
 | 0,_=>rfl
 | n+1,u=>by rw [digL,List.length_append,zmm n];rfl
theorem zki1 :∀n u,digV n u=(digL n u).map fun (c:Nat)=>Value.int .u8 (c:Int)
 | 0,_=>rfl
 | n+1,u=>by rw [digV,digL,List.map_append,zki1 n];rfl
theorem zfc1 :∀(k a u:Nat),(digL (a+k) u).take a=digL a (u / 10^k)
 | 0,a,u=>by rw [Nat.add_zero,Nat.pow_zero,Nat.div_one,List.take_of_length_le (by rw [zmm];exact Nat.le_refl _)]
 | k+1,a,u=>by
  rw [←Nat.add_assoc,digL,List.take_append_of_le_length (by rw [zmm];omega),zfc1 k a (u / 10),Nat.div_div_eq_div_mul,Nat.pow_succ']
theorem zbx1 :∀(n u:Nat),∀x∈digL n u,48≤x∧x<58
 | 0,_,x,h=>by simp [digL] at h
 | n+1,u,x,h=>by
  rw [digL,List.mem_append] at h
  rcases h with h | h
  ·exact zbx1 n _ x h
  ·rw [List.mem_singleton.1 h];omega
def sciT (neg:Bool) (a v:Nat) (e:Int):List Nat:=match digL a v with
 | []=> []
 | c::ds=>sciL neg c ds e
theorem zhi2 {neg:Bool} {a v:Nat} {e:Int} (he:e.natAbs<1000):∀x∈sciT neg a v e,x<256:=by
 unfold sciT
 have hd:=zbx1 a v
 generalize digL a v=l at*
 intro x hx
 cases l with
 | nil=>simp at hx
 | cons c ds=>
  have h1:=hd c (List.mem_cons_self ..)
  have h2:∀y∈ds,y<58:=fun y hy=>(hd y (List.mem_cons_of_mem _ hy)).2
  have h3:∀y∈expL e.natAbs,y<256:=by
   unfold expL
   intro y hy
   split at hy
   ·simp at hy;omega
   ·split at hy<;>simp at hy<;>omega
  have hx:x∈(if neg then [45] else [])++ [c]++(if ds=[] then [] else 46::ds)++ [101,if e<0 then 45 else 43]++expL e.natAbs:=hx
  rw [List.mem_append,List.mem_append,List.mem_append,List.mem_append] at hx
  rcases hx with (((hx | hx) | hx) | hx) | hx
  ·cases neg<;>simp at hx;omega
  ·simp at hx;omega
  ·split at hx
   ·cases hx
   ·rcases List.mem_cons.1 hx with hx | hx
    ·omega
    ·have:=h2 x hx;omega
  ·simp at hx
   rcases hx with hx | hx
   ·omega
   ·split at hx<;>omega
  ·exact h3 x hx
section
variable {h0 h:Hp}
theorem zmx1 {a:Nat} (k:Nat) (ha:a<9223372036854775808) (hk:k≤62):bitsI .and .i64 (IntKind.wrap .i64 (a:Int)) ((2^k-1:Nat):Int)=((a%2^k:Nat):Int):=by
 have h2:2^k≤2^62:=Nat.pow_le_pow_right (by decide) hk
 have hp:=Nat.two_pow_pos k
 have hm:a%2^k≤a:=Nat.mod_le _ _
 rw [zae (by omega) (by omega)]
 unfold bitsI
 dsimp only
 show IntKind.wrap .i64 (((BitVec.ofInt 64 (a:Int))&&&(BitVec.ofInt 64 ((2^k-1:Nat):Int))).toNat:Int)=_
 rw [BitVec.toNat_and,zkx (by omega),zkx (by omega),Nat.and_two_pow_sub_one_eq_mod,zae (by omega) (by omega)]
def mS (r:Nat):Nat:=zab r*2^(64-bitsN (zab r))
def eS (r:Nat):Int:=zac r-((64-bitsN (zab r):Nat):Int)
theorem zjn {r:Nat} (h1:0<r) (h2:r<9218868437227405312):1≤bitsN (zab r)∧bitsN (zab r)≤53∧(bitsN (zab r)<53→zac r= -1074)∧ -1074≤zac r∧zac r≤971∧zab r≠0:=by
 have hm:zab r≠0:=fun e=>by rw [zqt h2] at e;omega
 have b1:=zqj (zab r)
 have b2:=zvm hm
 have hl:zab r<2^53:=by unfold zab;split<;>omega
 have b3:=zas1 hl
 refine ⟨by unfold bitsN;rw [if_neg hm];omega,b3,fun hb=> ?_,partsE_ge' r,?_,hm⟩
 ·unfold zac
  by_cases hr:r<4503599627370496
  ·rw [if_pos hr]
  ·exfalso
   have:4503599627370496≤zab r:=by unfold zab;rw [if_neg hr];omega
   have:2^bitsN (zab r)≤2^52:=Nat.pow_le_pow_right (by decide) (by omega)
   omega
 ·unfold zac;split<;>omega
where
 partsE_ge' (r:Nat): -1074≤zac r:=by unfold zac;split<;>omega
theorem mS_in {r:Nat} (h1:0<r) (h2:r<9218868437227405312):9223372036854775808≤mS r∧mS r+2^zP (eS r)≤18446744073709551616∧ -1137≤eS r∧eS r≤974∧zP (eS r)=64-bitsN (zab r):=by
 obtain ⟨b1,b2,b3,b4,b5,hm⟩:=zjn h1 h2
 have l1:=zqj (zab r)
 have l2:=zvm hm
 have hz:zP (eS r)=64-bitsN (zab r):=by
  unfold zP eS
  split
  ·omega
  ·have:=b3 (by omega);omega
 have e1:2^(bitsN (zab r)-1)*2^(64-bitsN (zab r))=9223372036854775808:=by
  rw [←Nat.pow_add,show bitsN (zab r)-1+(64-bitsN (zab r))=63 by omega]
 have e2:2^bitsN (zab r)*2^(64-bitsN (zab r))=18446744073709551616:=by
  rw [←Nat.pow_add,show bitsN (zab r)+(64-bitsN (zab r))=64 by omega]
 refine ⟨?_,?_,by unfold eS;omega,by unfold eS;omega,hz⟩
 ·have:=Nat.mul_le_mul_right (2^(64-bitsN (zab r))) l2
  unfold mS
  omega
 ·have:=Nat.mul_le_mul_right (2^(64-bitsN (zab r))) (show zab r+1≤2^bitsN (zab r) from l1)
  rw [hz]
  unfold mS
  rw [Nat.succ_mul] at this
  omega
def Shown (r:Nat) (neg:Bool) (zs:List Nat):Prop:=∃n k v:Nat,(zbe (mS r) (eS r)).1=v*10^k∧v%10≠0∧k<n∧n≤20∧10^(n-1)≤(zbe (mS r) (eS r)).1∧(zbe (mS r) (eS r)).1<10^n∧zs=sciT neg (n-k) v ((n:Int)+(zbe (mS r) (eS r)).2-1)
theorem zhj2 {dst:Sl} {xs:List Nat} {w b0:Nat} {Q:Sl→Hp→Prop} (hw:h0≤h) (o:ON h0 h dst xs) (hbase:dst.base=some ⟨b0,0,none⟩) (hx:xs.length<1000) (hw64:w<18446744073709551616) (w0:0<w%9223372036854775808) (w1:w%9223372036854775808<9218868437227405312)
  (d0:(zbe (mS (w%9223372036854775808)) (eS (w%9223372036854775808))).1≠0) (d1:(zbe (mS (w%9223372036854775808)) (eS (w%9223372036854775808))).1<18446744073709551616)
  (t1:Pow10 h0) (t2:zre h0) (hk:∀r h' zs,h0≤h'→Shown (w%9223372036854775808) (negD w) zs→ON h0 h' r (xs++zs)→Q r h'):zds Tryz.prog dst w (101:Int) (-1:Int) Q h:=by
 obtain ⟨b1,b2,b3,b4,b5,hm⟩:=zjn w0 w1
 obtain ⟨m0,m1,e0,e1,hz⟩:=mS_in w0 w1
 unfold zds
 refine JoinW4.direct ⟨(w:Int),rfl,⟨by decide,by decide,by decide,by decide,by decide,?_⟩⟩
 rw [show IntKind.wrap .i64 ((shlI .i64 (1:Int) (11:Int))-(1:Int))=((2^11-1:Nat):Int) by decide,show IntKind.wrap .u64 ((shlI .u64 (1:Int) (52:Int))-(1:Int))=(4503599627370495:Int) by decide,show shlI .u64 (1:Int) (52:Int)=((1*2^52:Nat):Int) by decide,
  show IntKind.wrap .i64 ((11:Int)+(52:Int))=((63:Nat):Int) by decide,show (52:Int)=((52:Nat):Int) from rfl,shrN w (by decide),shrN w (by decide),zmx1 11 (by omega) (by decide),zti1 hw64]
 have hE:w / 2^52%2^11=w%9223372036854775808 / 4503599627370496:=by omega
 have hF:w%4503599627370496=w%9223372036854775808%4503599627370496:=by omega
 rw [hE,hF]
 have hneg:(((w / 2^63:Nat):Int) !=(0:Int))=negD w:=by
  unfold negD
  by_cases c:9223372036854775808≤w
  ·rw [decide_eq_true c];exact bne_iff_ne.2 (by omega)
  ·rw [decide_eq_false c,Bool.eq_false_iff]
   intro hh
   exact bne_iff_ne.1 hh (by omega)
 rw [hneg]
 generalize w%9223372036854775808=r at*
 refine iteF (fun hh=>by have:=beq_iff_eq.1 hh;omega) ?_
 refine JoinW2.intro (fun e m k=>k=h∧e=zac r+1075∧m=((zab r:Nat):Int)) ?_ ?_
 ·by_cases hr:r<4503599627370496
  ·refine iteT (beq_iff_eq.2 (by omega)) ⟨rfl,?_,?_⟩
   ·rw [show r / 4503599627370496=0 by omega]
    unfold zac
    rw [if_pos hr]
    decide
   ·unfold zab
    rw [if_pos hr,Nat.mod_eq_of_lt hr]
  ·refine iteF (fun hh=>hr (by have:=beq_iff_eq.1 hh;omega)) ⟨by decide,rfl,?_,?_⟩
   ·unfold zac
    rw [if_neg hr]
    omega
   ·unfold zab
    rw [if_neg hr,zzq1,zth1 (a:=1) (s:=52) (.inl ⟨rfl,by omega⟩) (by omega)]
    omega
 rintro _ _ h ⟨rfl,rfl,rfl⟩
 refine iteF (by decide) (letW (iteF (by decide) (iteF (fun hh=>hm (by have:=beq_iff_eq.1 hh;omega)) (iteT (by decide) ?_))))
 intro b ty hb
 generalize hbuf: [Value.int .u8 (0:Int),_,_,_,_,_,_,_,_,_,_,_,_,_,_,_,_,_,_,_,_,_,_,_,_,_,_,_,_,_,_,_]=buf
 have hbl:buf.length=32:=by rw [←hbuf];rfl
 have hle:=ziv (o:=.cells buf.toArray ty (0,0)) hb
 have kb:Blk (h.set b (.cells buf.toArray ty (0,0))) b buf:=⟨ty,zec⟩
 have hne:b≠b0:=fun e=>by
  subst e
  obtain ⟨_,_,o3⟩:=o
  rcases o3 with ⟨o3,_⟩ | ⟨b',cs,t,o3,o4,_⟩
  ·rw [hbase] at o3;cases o3
  ·rw [hbase] at o3;cases o3;rw [hb] at o4;cases o4
 have own:=o.mono hle
 have hw2:=Hp.le_trans hw hle
 have hb0:h0 b=none:=ztw hw hb
 clear hbuf
 generalize h.set b (.cells buf.toArray ty (0,0))=h1 at*
 have ml:zab r<18446744073709551616:=Nat.lt_of_lt_of_le (zqj _) (Nat.le_trans (Nat.pow_le_pow_right (by decide) b2) (by decide))
 have hL:IntKind.wrap .i64 ((64:Int)-(bitsN (zab r):Int))=((64-bitsN (zab r):Nat):Int):=by rw [zae (by omega) (by omega)];omega
 refine zgn (zdh1 ml ?_)
 rw [hL]
 have eM:shlI .u64 ((zab r:Nat):Int) ((64-bitsN (zab r):Nat):Int)=((mS r:Nat):Int):=shlN (by omega) (by have:0<2^zP (eS r):=Nat.two_pow_pos _;unfold mS at m1;omega)
 have eE:IntKind.wrap .i64 ((IntKind.wrap .i64 ((IntKind.wrap .i64 (zac r+1075+(-1023:Int)))-((64-bitsN (zab r):Nat):Int)))-((52:Nat):Int))=eS r:=by
  unfold eS
  rw [zae (n:=zac r+1075+ -1023) (by omega) (by omega),zae (n:=zac r+1075+ -1023-_) (by omega) (by omega),zae (by omega) (by omega)]
  omega
 rw [eM,eE]
 refine ⟨by omega,zir (zds2 m0 m1 e0 e1 (zbd hw2 t1) fun h2 l2=>letW ?_)⟩
 have eb:sbase (some ⟨b,0,none⟩) 1 0 32=some ⟨b,0,none⟩:=by unfold sbase;rw [if_neg (by decide)];show some (Addr.add _ _)=_;rw [box_add]
 rw [eb]
 obtain ⟨p0,p1, -, -⟩:=p_in (m:=mS r) e0 e1
 have hp2: -400≤(zbe (mS r) (eS r)).2∧(zbe (mS r) (eS r)).2≤400:=by
  unfold zbe
  split
  ·show -400≤ -(pP _ _-1)∧ -(pP _ _-1)≤400;omega
  ·split
   ·show -400≤ -(pP _ _)∧ -(pP _ _)≤400;omega
   ·show -400≤ -(pP _ _)∧ -(pP _ _)≤400;omega
 have sh:∀ {n k v:Nat},(zbe (mS r) (eS r)).1=v*10^k→v%10≠0→k<n→n≤20→10^(n-1)≤(zbe (mS r) (eS r)).1→(zbe (mS r) (eS r)).1<10^n→Shown r (negD w) (sciT (negD w) (n-k) v ((n:Int)+(zbe (mS r) (eS r)).2-1)):=fun a1 a2 a3 a4 a5 a6=>⟨_,_,_,a1,a2,a3,a4,a5,a6,rfl⟩
 generalize (zbe (mS r) (eS r)).1=d at*
 generalize (zbe (mS r) (eS r)).2=p at*
 have kb2:=kb.le l2
 have own2:=own.mono l2
 have hw3:=Hp.le_trans hw2 l2
 refine zhe (zcl1 d0 d1 (zbd hw3 t2) fun n n1 n20 dn dn1=> ?_)
 refine zoa (zmw1 (s:=⟨some ⟨b,0,none⟩,32,32⟩) rfl hbl.symm rfl (by show 32<_;decide) kb2 d0 d1 (by show n≤32;omega) dn1 (by omega) (by omega) fun h3 k v mv kb3 hv hv10 hkn=> ?_)
 refine JoinW1.intro (fun q k'=>k'=h3∧q=((n-k-1:Nat):Int)) (JoinW1.direct (iteT (by decide) (iteT (by decide) ⟨rfl,?_⟩))) ?_
 ·rw [zae (by omega) (by omega)]
  unfold max2I
  split<;>omega
 rintro q h3' ⟨rfl,rfl⟩
 refine letW ?_
 have hb03:h3' b0=h2 b0∨True:=.inr trivial
 have own3:ON h0 h3' dst xs:=by
  obtain ⟨o1,o2,o3⟩:=own2
  refine ⟨o1,o2,?_⟩
  rcases o3 with o3 | ⟨b',cs,t,o3,o4,o5⟩
  ·exact .inl o3
  ·refine .inr ⟨b',cs,t,o3,?_,o5⟩
   rw [hbase] at o3;cases o3
   exact mv.keep _ _ o4 (by simpa using Ne.symm hne)
 have hw4:h0≤h3':=fun c ob hc=>mv.keep c ob (hw3 c ob hc) (by simp only [List.mem_singleton];intro e;rw [e,hb0] at hc;cases hc)
 have hb0n:h0 b0=none:=by
  obtain ⟨_,_,o3⟩:=own3
  rcases o3 with ⟨o3,_⟩ | ⟨b',cs,t,o3,_,_,_,o4⟩
  ·rw [hbase] at o3;cases o3
  ·rw [hbase] at o3;cases o3;exact o4
 have own4:ON (cutH h3' [b0]) h3' dst xs:=by
  obtain ⟨o1,o2,o3⟩:=own3
  refine ⟨o1,o2,?_⟩
  rcases o3 with o3 | ⟨b',cs,t,o3,o4,o5,o6,o7⟩
  ·exact .inl o3
  ·rw [hbase] at o3;cases o3
   exact .inr ⟨b0,cs,t,hbase,o4,o5,o6,zdo2 (List.mem_singleton.2 rfl)⟩
 have hcut:h0≤cutH h3' [b0]:=zjf2 hw4 (by simpa using hb0n)
 have kb4:Blk (cutH h3' [b0]) b (digV n d++buf.drop n):=by
  obtain ⟨t,e⟩:=kb3
  exact ⟨t,by rw [zzn1 (by simpa using hne)];exact e⟩
 obtain ⟨c,ds,hcd⟩:∃c ds,digL (n-k) v=c::ds:=by
  cases hq:digL (n-k) v with
  | nil=>have:=congrArg List.length hq;rw [zmm] at this;simp at this;omega
  | cons c ds=>exact ⟨c,ds,rfl⟩
 have hds:ds.length+1=n-k:=by have:=congrArg List.length hcd;rw [zmm] at this;simpa using this.symm
 have htake:(digV n d++buf.drop n).take (ds.length+1)=(c::ds).map fun (c:Nat)=>Value.int .u8 (c:Int):=by
  rw [hds,List.take_append_of_le_length (by rw [zvn];omega),zki1,←List.map_take,←hcd]
  have:=zfc1 k (n-k) d
  rw [show n-k+k=n by omega,hv,Nat.mul_div_cancel _ (Nat.pow_pos (by decide))] at this
  rw [hv,this]
 refine zim (zji2 (s:=⟨some ⟨b,0,none⟩,32,32⟩) zje2 own4 hx rfl kb4 (by show 32=_;rw [List.length_append,zvn,List.length_drop,hbl];omega) rfl (by show 32<_;decide) (by rw [hds]) htake (by omega) (by omega) (by omega) fun r' h4 l4 o4=> ?_)
 have o5:ON h0 h4 r' (xs++sciL (negD w) c ds ((n:Int)+p-1)):=by
  obtain ⟨q1,q2,q3⟩:=o4
  refine ⟨q1,q2,?_⟩
  rcases q3 with q3 | ⟨b',cs,t,q3,q4,q5,q6,q7⟩
  ·exact .inl q3
  ·exact .inr ⟨b',cs,t,q3,q4,q5,q6,ztw hcut q7⟩
 refine hk r' h4 _ (Hp.le_trans hcut l4) (sh hv hv10 hkn n20 dn dn1) ?_
 unfold sciT
 rw [hcd]
 exact o5
end
end Lf

namespace Lf
def kF (r:Nat):Nat:=unitW (zac r-2) 0
def lowF (r:Nat):Nat:=if zab r=4503599627370496∧1<r / 4503599627370496 then 4*zab r-1 else 4*zab r-2
def loF (r:Nat):Nat:=lowF r*kF r
def hiF (r:Nat):Nat:=(4*zab r+2)*kF r
def vF (r:Nat):Nat:=4*zab r*kF r
def oddF (r:Nat):Bool:=zab r%2==1
def pF (r:Nat):Int:=pP (mS r) (eS r)
def inF (r:Nat) (X:Nat):Bool:=inI (loF r) (hiF r) (oddF r) X
def pickF (r:Nat) (s:Int):Nat:=pickD (loF r) (hiF r) (oddF r) (vF r) (unitW 0 s)
def valS (r:Nat):Nat:=(zbe (mS r) (eS r)).1*unitW 0 (zbe (mS r) (eS r)).2
theorem zxv (s k:Int) (hs: -3000≤s) (hk: -3000≤k):∃Z,0<Z∧10^s.toNat*2^(-k).toNat*Z=unitW 0 s∧2^k.toNat*10^(-s).toNat*Z=unitW k 0:=by
 refine ⟨2^(5000-(-k).toNat)*10^(5000-(-s).toNat),Nat.mul_pos (Nat.two_pow_pos _) (Nat.pow_pos (by decide)),?_,?_⟩
 ·unfold unitW
  have e:∀i j k l:Nat,10^i*2^j*(2^k*10^l)=2^(j+k)*10^(i+l):=fun i j k l=>by
   rw [Nat.pow_add,Nat.pow_add];ac_rfl
  rw [e]
  congr 2<;>omega
 ·unfold unitW
  have e:∀i j k l:Nat,2^i*10^j*(2^k*10^l)=2^(i+k)*10^(j+l):=fun i j k l=>by
   rw [Nat.pow_add,Nat.pow_add];ac_rfl
  rw [e]
  congr 2<;>omega
def logOk (c:Nat) (n x:Int):Bool:=decide (10^x.toNat*2^(-n).toNat≤c*(2^n.toNat*10^(-x).toNat))&&decide (c*(2^n.toNat*10^(-x).toNat)<10*(10^x.toNat*2^(-n).toNat))
def logLt (c:Nat) (n x:Int):Bool:=decide (10^x.toNat*2^(-n).toNat<c*(2^n.toNat*10^(-x).toNat))
theorem zts1 {c:Nat} {n x:Int} (hn: -3000≤n) (hx: -3000≤x) (h:logOk c n x=true):unitW 0 x≤c*unitW n 0∧c*unitW n 0<10*unitW 0 x:=by
 obtain ⟨Z,z0,e1,e2⟩:=zxv x n hx hn
 unfold logOk at h
 rw [Bool.and_eq_true] at h
 have h1:=Nat.mul_le_mul_right Z (of_decide_eq_true h.1)
 have h2:=Nat.mul_lt_mul_of_pos_right (of_decide_eq_true h.2) z0
 rw [Nat.mul_assoc c,e1,e2] at h1
 rw [Nat.mul_assoc c,Nat.mul_assoc 10,e1,e2] at h2
 exact ⟨h1,h2⟩
theorem zhk2 {c:Nat} {n x:Int} (hn: -3000≤n) (hx: -3000≤x) (h:logLt c n x=true):unitW 0 x<c*unitW n 0:=by
 obtain ⟨Z,z0,e1,e2⟩:=zxv x n hx hn
 unfold logLt at h
 have h2:=Nat.mul_lt_mul_of_pos_right (of_decide_eq_true h) z0
 rw [Nat.mul_assoc c,e1,e2] at h2
 exact h2
theorem zhl2 :∀i:Nat,i<2060→logOk 1 ((i:Int)-1074) (zip ((i:Int)-1074))=true:=by decide+kernel
theorem zdw2 :∀i:Nat,i<2060→(logOk 3 ((i:Int)-1076) (skewP ((i:Int)-1074))&&logLt 3 ((i:Int)-1076) (skewP ((i:Int)-1074)))=true:=by decide+kernel
section
variable {r:Nat}
theorem zrg {r:Nat} (h1:0<r) (h2:r<9218868437227405312):zP (eS r)=64-bitsN (zab r)∧mS r=zab r*2^zP (eS r)∧eS r=zac r-(zP (eS r):Nat)∧11≤zP (eS r)∧zP (eS r)≤63∧(-1085≤eS r→zP (eS r)=11)∧0<zab r:=by
 obtain ⟨b1,b2,b3,b4,b5,hm⟩:=zjn h1 h2
 obtain ⟨m0,m1,e0,e1,hz⟩:=mS_in h1 h2
 refine ⟨hz,by rw [hz];rfl,by rw [hz];rfl,by omega,by omega,fun h=> ?_,by omega⟩
 unfold zP
 rw [if_pos h]
theorem zkj1 (h1:0<r) (h2:r<9218868437227405312):(mS r=9223372036854775808∧ -1085<eS r)↔(zab r=4503599627370496∧1<r / 4503599627370496):=by
 obtain ⟨hz,hm,he,z0,z1,z2,hM⟩:=zrg h1 h2
 obtain ⟨b1,b2,b3,b4,b5, -⟩:=zjn h1 h2
 constructor
 ·rintro ⟨a1,a2⟩
  have z11:=z2 (by omega)
  rw [z11] at hm he
  have m2:zab r=4503599627370496:=by
   rw [show (2:Nat)^11=2048 by decide] at hm
   omega
  refine ⟨m2,?_⟩
  have hr:¬r<4503599627370496:=fun h=>by
   have:zab r=r:=by unfold zab;rw [if_pos h]
   omega
  have:zac r=((r / 4503599627370496:Nat):Int)-1075:=by unfold zac;rw [if_neg hr]
  omega
 ·rintro ⟨a1,a2⟩
  have hr:¬r<4503599627370496:=fun h=>by omega
  have hE:zac r=((r / 4503599627370496:Nat):Int)-1075:=by unfold zac;rw [if_neg hr]
  have hb:bitsN (zab r)=53:=by rw [a1];decide
  have z11:zP (eS r)=11:=by omega
  rw [z11] at hm he
  refine ⟨by rw [hm,a1],by omega⟩
theorem zjj2 (h1:0<r) (h2:r<9218868437227405312):2^(zP (eS r)-2)*unitW (eS r) 0=kF r:=by
 obtain ⟨hz,hm,he,z0,z1,z2,hM⟩:=zrg h1 h2
 obtain ⟨m0,m1,e0,e1, -⟩:=mS_in h1 h2
 rw [zcq (by omega)]
 unfold kF
 congr 1
 omega
theorem two_z {z:Nat} (hz:11≤z):2^z=4*2^(z-2)∧2^(z-1)=2*2^(z-2):=by
 obtain ⟨k,rfl⟩:∃k,z=k+2:=⟨z-2,by omega⟩
 rw [show k+2-1=k+1 by omega,show k+2-2=k by omega,Nat.pow_succ,Nat.pow_succ]
 omega
theorem ztt1 (h1:0<r) (h2:r<9218868437227405312):minP (mS r) (eS r)=lowF r*2^(zP (eS r)-2)∧maxP (mS r) (eS r)=(4*zab r+2)*2^(zP (eS r)-2)∧mS r=4*zab r*2^(zP (eS r)-2)∧oddP (mS r) (eS r)=oddF r:=by
 obtain ⟨hz,hm,he,z0,z1,z2,hM⟩:=zrg h1 h2
 have sk:=zkj1 h1 h2
 obtain ⟨t1,t2⟩:=two_z z0
 have hm4:mS r=4*zab r*2^(zP (eS r)-2):=by rw [hm,t1,Nat.mul_left_comm,Nat.mul_assoc]
 refine ⟨?_,?_,hm4,?_⟩
 ·unfold minP lowF
  by_cases h:mS r=9223372036854775808∧ -1085<eS r
  ·rw [if_pos h,if_pos (sk.1 h),z2 (by omega)]
   have:=(sk.1 h).1
   rw [h.1,this]
  ·rw [if_neg h,if_neg (fun hh=>h (sk.2 hh)),hm4,t2,←Nat.sub_mul]
 ·unfold maxP
  rw [hm4,t2,←Nat.add_mul]
 ·unfold oddP oddF
  rw [hm,Nat.mul_div_cancel _ (Nat.two_pow_pos _)]
theorem zwf1 (h1:0<r) (h2:r<9218868437227405312) {x:Nat} (hx:x=minP (mS r) (eS r)∨x=mS r∨x=maxP (mS r) (eS r)):
  2305843009213693952≤x∧x<18446744073709551616∧x%2^(if -1085≤eS r then 9 else zP (eS r)-1)=0:=by
 obtain ⟨hz,hm,he,z0,z1,z2,hM⟩:=zrg h1 h2
 obtain ⟨m0,m1,e0,e1, -⟩:=mS_in h1 h2
 obtain ⟨n1,n2,n3, -⟩:=ztt1 h1 h2
 obtain ⟨t1,t2⟩:=two_z z0
 have p62:2^(zP (eS r)-1)≤4611686018427387904:=by
  have:2^(zP (eS r)-1)≤2^62:=Nat.pow_le_pow_right (by decide) (by omega)
  exact this
 have pz:=Nat.two_pow_pos (zP (eS r)-2)
 refine ⟨?_,?_,?_⟩
 ·rcases hx with rfl | rfl | rfl
  ·unfold minP;split<;>omega
  ·omega
  ·unfold maxP;omega
 ·rcases hx with rfl | rfl | rfl
  ·unfold minP;split<;>omega
  ·omega
  ·unfold maxP;omega
 ·by_cases h: -1085≤eS r
  ·rw [if_pos h]
   rw [z2 h,show (2:Nat)^(11-2)=512 by decide] at n1 n2 n3
   rcases hx with rfl | rfl | rfl
   ·rw [n1];exact Nat.mul_mod_left _ _
   ·rw [n3];exact Nat.mul_mod_left _ _
   ·rw [n2];exact Nat.mul_mod_left _ _
  ·rw [if_neg h]
   have e3:∀c:Nat,2*c*2^(zP (eS r)-2)%2^(zP (eS r)-1)=0:=fun c=>by
    rw [t2,Nat.mul_comm 2 c,Nat.mul_assoc]
    exact Nat.mul_mod_left _ _
   have hl:lowF r=2*(2*zab r-1):=by
    unfold lowF
    rw [if_neg (fun hh=>h (by have:=((zkj1 h1 h2).2 hh).2;omega))]
    omega
   rcases hx with rfl | rfl | rfl
   ·rw [n1,hl];exact e3 _
   ·rw [n3,show 4*zab r=2*(2*zab r) by omega];exact e3 _
   ·rw [n2,show 4*zab r+2=2*(2*zab r+1) by omega];exact e3 _
theorem scl_F (h1:0<r) (h2:r<9218868437227405312) {x c:Nat} (hx:x=minP (mS r) (eS r)∨x=mS r∨x=maxP (mS r) (eS r)) (hc:x=c*2^(zP (eS r)-2)):
  sclP (mS r) (eS r) x=zav (4*(c*kF r)) (unitW 0 (-pF r))∧sclP (mS r) (eS r) x<18446744073709551000∧0<sclP (mS r) (eS r) x:=by
 obtain ⟨m0,m1,e0,e1, -⟩:=mS_in h1 h2
 obtain ⟨l1,l2,l3⟩:=zwf1 h1 h2 hx
 have hs:=s_in (m:=mS r) e0 e1
 obtain ⟨p0,p1,s0,s1⟩:=p_in (m:=mS r) e0 e1
 obtain ⟨t1,t2,t3⟩:=zhv1 p0 p1
 have e:=zzt1 (m:=mS r) e0 e1 l1 l2 l3
 rw [hc,Nat.mul_assoc,zjj2 h1 h2,←hc] at e
 refine ⟨e,?_,?_⟩
 ·unfold sclP ztl
  dsimp only
  have hul:x*hiP (pP (mS r) (eS r)) / 18446744073709551616<18446744073709551616:=Nat.div_lt_of_lt_mul (Nat.lt_of_lt_of_le (Nat.mul_lt_mul_of_lt_of_lt l2 t2) (Nat.le_refl _))
  generalize x*hiP (pP (mS r) (eS r)) / 18446744073709551616=u at*
  have hp:2^4≤2^(-(eS r+log2P (pP (mS r) (eS r))+3)).toNat:=Nat.pow_le_pow_right (by decide) hs
  generalize 2^(-(eS r+log2P (pP (mS r) (eS r))+3)).toNat=D at*
  have hdiv:∀ {w:Nat},w<18446744073709551616→w / D<2^60:=fun {w} hw=>by
   have:w / D≤w / 2^4:=Nat.div_le_div_left hp (by decide)
   omega
  have o1:∀ {w k:Nat},w<18446744073709551616→k<2→w / D ||| k<18446744073709551000:=fun {w k} hw hk=>by
   have:w / D ||| k<2^60:=Nat.or_lt_two_pow (hdiv hw) (by omega)
   omega
  split
  ·exact o1 hul (by omega)
  ·exact o1 (by split<;>omega) (by split<;>omega)
 ·refine Nat.pos_of_ne_zero fun hz=> ?_
  rw [hz] at e
  have:=(zbv1 (F:=4*(c*kF r)) (c:=0) (zby 0 (-pP (mS r) (eS r))) rfl).1.1 (by rw [←e];exact Nat.le_refl _)
  rw [Nat.zero_mul] at this
  have hc0:0<c:=by
   rcases Nat.eq_zero_or_pos c with h | h
   ·rw [h,Nat.zero_mul] at hc;omega
   ·exact h
  have hk:0<kF r:=zby _ _
  have:=Nat.mul_pos hc0 hk
  omega
end
end Lf

namespace Lf
section
variable {r:Nat}
theorem zmy1 (r:Nat):0<kF r:=zby _ _
theorem zhm2 (h1:0<r) (h2:r<9218868437227405312):lowF r<4*zab r:=by
 obtain ⟨hz,hm,he,z0,z1,z2,hM⟩:=zrg h1 h2
 unfold lowF;split<;>omega
theorem v_in (h1:0<r) (h2:r<9218868437227405312):loF r<vF r∧vF r<hiF r:=by
 have hk:=zmy1 r
 exact ⟨Nat.mul_lt_mul_of_pos_right (zhm2 h1 h2) hk,Nat.mul_lt_mul_of_pos_right (by omega) hk⟩
theorem zmz1 (h1:0<r) (h2:r<9218868437227405312):unitW 0 (-pF r)≤hiF r-loF r∧hiF r-loF r<10*unitW 0 (-pF r)∧
  ((2*(vF r-loF r)=hiF r-loF r∧vF r=zab r*(hiF r-loF r))∨(3*(vF r-loF r)=hiF r-loF r∧unitW 0 (-pF r)<hiF r-loF r∧zab r=4503599627370496)):=by
 obtain ⟨hz,hm,he,z0,z1,z2,hM⟩:=zrg h1 h2
 obtain ⟨b1,b2,b3,b4,b5, -⟩:=zjn h1 h2
 have sk:=zkj1 h1 h2
 have hk:=zmy1 r
 by_cases h:mS r=9223372036854775808∧ -1085<eS r
 ·have h':=sk.1 h
  have hp: -pF r=skewP (zac r):=by
   unfold pF pP
   rw [if_pos h,show eS r+11=zac r by have:=z2 (by omega);omega]
   omega
  have hl:lowF r=4*zab r-1:=by unfold lowF;rw [if_pos h']
  have hw:hiF r-loF r=3*kF r:=by
   unfold hiF loF
   rw [←Nat.sub_mul,hl]
   congr 1;omega
  have hv:vF r-loF r=kF r:=by
   unfold vF loF
   rw [←Nat.sub_mul,hl,show 4*zab r-(4*zab r-1)=1 by omega,Nat.one_mul]
  have c:=zdw2 (zac r+1074).toNat (by omega)
  rw [show (((zac r+1074).toNat:Nat):Int)-1076=zac r-2 by omega,show (((zac r+1074).toNat:Nat):Int)-1074=zac r by omega,Bool.and_eq_true] at c
  have hx: -3000≤skewP (zac r):=by unfold skewP;omega
  obtain ⟨c1,c2⟩:=zts1 (by omega) hx c.1
  have c3:=zhk2 (by omega) hx c.2
  rw [hp,hw,hv]
  exact ⟨c1,c2,.inr ⟨rfl,c3,h'.1⟩⟩
 ·have h':¬_:=fun hh=>h (sk.2 hh)
  have hp: -pF r=zip (zac r):=by
   unfold pF pP
   rw [if_neg h,show eS r+(zP (eS r):Nat)=zac r by omega]
   omega
  have hl:lowF r=4*zab r-2:=by unfold lowF;rw [if_neg h']
  have hw:hiF r-loF r=4*kF r:=by
   unfold hiF loF
   rw [←Nat.sub_mul,hl]
   congr 1;omega
  have hv:vF r-loF r=2*kF r:=by
   unfold vF loF
   rw [←Nat.sub_mul,hl]
   congr 1;omega
  have hw1:4*kF r=1*unitW (zac r) 0:=by
   have:=zcq (a:=zac r-2) (b:=0) (n:=2) (by omega)
   rw [show zac r-2+((2:Nat):Int)=zac r by omega] at this
   rw [Nat.one_mul,←this]
   rfl
  have c:=zhl2 (zac r+1074).toNat (by omega)
  rw [show (((zac r+1074).toNat:Nat):Int)-1074=zac r by omega] at c
  have hx: -3000≤zip (zac r):=by unfold zip;omega
  obtain ⟨c1,c2⟩:=zts1 (by omega) hx c
  rw [hp,hw,hv]
  rw [←hw1] at c1 c2
  refine ⟨c1,c2,.inl ⟨by omega,?_⟩⟩
  unfold vF
  rw [←Nat.mul_assoc]
  congr 1;omega
theorem min_F (h1:0<r) (h2:r<9218868437227405312) (d:Nat):dminP (mS r) (eS r)≤d↔if oddF r=true then loF r<d*unitW 0 (-pF r) else loF r≤d*unitW 0 (-pF r):=by
 obtain ⟨n1,n2,n3,n4⟩:=ztt1 h1 h2
 obtain ⟨s1,s2,s3⟩:=scl_F h1 h2 (.inl rfl) n1
 unfold dminP
 rw [n4]
 cases h:oddF r
 ·exact zzv1 (zby _ _) s1 s2
 ·exact zdt2 (zby _ _) s1 s2
theorem max_F (h1:0<r) (h2:r<9218868437227405312) (d:Nat):d≤dmaxP (mS r) (eS r)↔if oddF r=true then d*unitW 0 (-pF r)<hiF r else d*unitW 0 (-pF r)≤hiF r:=by
 obtain ⟨n1,n2,n3,n4⟩:=ztt1 h1 h2
 obtain ⟨s1,s2,s3⟩:=scl_F h1 h2 (.inr (.inr rfl)) n2
 unfold dmaxP
 rw [n4]
 cases h:oddF r
 ·exact zvz1 (zby _ _) s1 s2
 ·exact zzw1 (zby _ _) s1 s2 s3
theorem zjk2 (h1:0<r) (h2:r<9218868437227405312):zar1 (sclP (mS r) (eS r) (mS r))=if 2*(vF r%unitW 0 (-pF r))<unitW 0 (-pF r)∨(2*(vF r%unitW 0 (-pF r))=unitW 0 (-pF r)∧vF r / unitW 0 (-pF r)%2=0) then vF r / unitW 0 (-pF r) else vF r / unitW 0 (-pF r)+1:=by
 obtain ⟨n1,n2,n3,n4⟩:=ztt1 h1 h2
 obtain ⟨s1,s2,s3⟩:=scl_F h1 h2 (.inr (.inl rfl)) n3
 exact zhy1 (zby _ _) s1 s2
theorem zqs1 (h1:0<r) (h2:r<9218868437227405312): -348≤pF r∧pF r≤347:=by
 obtain ⟨m0,m1,e0,e1, -⟩:=mS_in h1 h2
 obtain ⟨p0,p1, -, -⟩:=p_in (m:=mS r) e0 e1
 exact ⟨p0,p1⟩
theorem ten_F (h1:0<r) (h2:r<9218868437227405312):10*unitW 0 (-pF r)=unitW 0 (1-pF r):=by
 obtain ⟨p0,p1⟩:=zqs1 h1 h2
 have:=zhx (a:=0) (b:= -pF r) (n:=1) (by omega)
 rw [Nat.pow_one] at this
 rw [this]
 congr 1
 omega
theorem zib1 (h1:0<r) (h2:r<9218868437227405312):valS r=zhz1 (dminP (mS r) (eS r)) (dmaxP (mS r) (eS r)) (zar1 (sclP (mS r) (eS r) (mS r))) (unitW 0 (-pF r)):=by
 unfold valS zhz1 zbe
 rw [ten_F h1 h2]
 by_cases c1:dminP (mS r) (eS r)≤dmaxP (mS r) (eS r) / 10*10
 ·rw [if_pos c1,if_pos c1]
  show _*unitW 0 (-(pF r-1))=_
  congr 2
  omega
 ·rw [if_neg c1,if_neg c1]
  by_cases c2:dminP (mS r) (eS r)<dmaxP (mS r) (eS r)
  ·rw [if_pos c2,if_pos c2];rfl
  ·rw [if_neg c2,if_neg c2];rfl
theorem zzx1 (h1:0<r) (h2:r<9218868437227405312) {c:Nat} (hc:inF r (c*unitW 0 (1-pF r))=true):valS r=c*unitW 0 (1-pF r):=by
 obtain ⟨w1,w2,w3⟩:=zmz1 h1 h2
 obtain ⟨v1,v2⟩:=v_in h1 h2
 rw [zib1 h1 h2]
 rw [←ten_F h1 h2] at hc ⊢
 exact zwa1 w2 v1 v2 (min_F h1 h2) (max_F h1 h2) hc
theorem zzy1 (h1:0<r) (h2:r<9218868437227405312) (hno:∀c,inF r (c*unitW 0 (1-pF r))=false):valS r=pickF r (-pF r)*unitW 0 (-pF r)∧inF r (pickF r (-pF r)*unitW 0 (-pF r))=true:=by
 obtain ⟨w1,w2,w3⟩:=zmz1 h1 h2
 obtain ⟨v1,v2⟩:=v_in h1 h2
 rw [zib1 h1 h2]
 rw [←ten_F h1 h2] at hno
 have hT:=zby 0 (-pF r)
 refine zwb1 hT w1 v1 v2 ?_ (min_F h1 h2) (max_F h1 h2) (zjk2 h1 h2) hno
 rcases w3 with ⟨a,b⟩ | ⟨a,b,c⟩
 ·refine .inl ⟨a,fun e=> ?_⟩
  rw [e,b]
  exact Nat.mul_mod_left _ _
 ·exact .inr ⟨a,b⟩
theorem zfd1 (h1:0<r) (h2:r<9218868437227405312):inF r (valS r)=true:=by
 by_cases h:∃c,inF r (c*unitW 0 (1-pF r))=true
 ·obtain ⟨c,hc⟩:=h
  rw [zzx1 h1 h2 hc]
  exact hc
 ·obtain ⟨e,hh⟩:=zzy1 h1 h2 fun c=>by
   cases hc:inF r (c*unitW 0 (1-pF r))
   ·rfl
   ·exact absurd ⟨c,hc⟩ h
  rw [e]
  exact hh
end
end Lf

namespace Lf
section
variable {r:Nat}
theorem zfe1 {a b:Int} (ha: -5000≤a) (h:a≤b):unitW 0 a≤unitW 0 b:=by
 have e:=zhx (a:=0) (b:=a) (n:=(b-a).toNat) ha
 rw [show a+(((b-a).toNat:Nat):Int)=b by omega] at e
 rw [←e]
 exact Nat.le_mul_of_pos_left _ (Nat.pow_pos (by decide))
theorem zhn2 {a b:Int} (hb: -5000≤b) (h:unitW 0 a<unitW 0 b):a<b:=by
 rcases Int.lt_or_le a b with hh | hh
 ·exact hh
 ·have:=zfe1 hb hh
  omega
theorem zjl2 (h1:0<r) (h2:r<9218868437227405312):unitW 0 (-pF r)≤vF r∧vF r<unitW 0 (17-pF r)∧(vF r<10*unitW 0 (-pF r)→r≤9):=by
 obtain ⟨w1,w2,w3⟩:=zmz1 h1 h2
 obtain ⟨v1,v2⟩:=v_in h1 h2
 obtain ⟨p0,p1⟩:=zqs1 h1 h2
 obtain ⟨hz,hm,he,z0,z1,z2,hM⟩:=zrg h1 h2
 have hM2:zab r<9007199254740992:=by unfold zab;split<;>omega
 have e:=zhx (a:=0) (b:= -pF r) (n:=17) (by omega)
 rw [show -pF r+((17:Nat):Int)=17-pF r by omega] at e
 have hT:=zby 0 (-pF r)
 rw [←e,show (10:Nat)^17=100000000000000000 by decide]
 generalize unitW 0 (-pF r)=T at*
 have small:zab r≤9→r≤9:=fun h=>by
  unfold zab at h
  split at h<;>omega
 rcases w3 with ⟨a,b⟩ | ⟨a,b,c⟩
 ·generalize hiF r-loF r=w at*
  have t1:=Nat.mul_le_mul_right w hM
  have t2:=Nat.mul_le_mul_right w (show zab r≤9007199254740991 by omega)
  refine ⟨by omega,by omega,fun h=>small ?_⟩
  refine Classical.byContradiction fun hn=> ?_
  have t3:=Nat.mul_le_mul_right w (show 10≤zab r by omega)
  omega
 ·have hv:vF r=18014398509481984*kF r:=by unfold vF;rw [c]
  have hk:=zmy1 r
  have hl:hiF r=(18014398509481984+2)*kF r:=by unfold hiF;rw [c]
  have hl2:lowF r=18014398509481983∨lowF r=18014398509481982:=by unfold lowF;rw [c];split<;>omega
  have hl3:loF r=18014398509481983*kF r∨loF r=18014398509481982*kF r:=by
   unfold loF
   rcases hl2 with h | h
   ·rw [h];exact .inl rfl
   ·rw [h];exact .inr rfl
  generalize hiF r=H at*
  generalize vF r=v at*
  generalize loF r=l at*
  generalize kF r=k at*
  refine ⟨?_,?_,fun h=> ?_⟩
  ·rcases hl3 with h | h<;>omega
  ·rcases hl3 with h | h<;>omega
  ·exfalso
   rcases hl3 with h | h<;>omega
theorem zzz1 {c d:Nat} {s t:Int} (hs: -3000≤s) (ht: -3000≤t) (hc:c%10≠0) (hd:d%10≠0) (h:c*unitW 0 s=d*unitW 0 t):c=d∧s=t:=by
 have main:∀ {c d:Nat} {s t:Int}, -3000≤s→c%10≠0→s≤t→c*unitW 0 s=d*unitW 0 t→s=t:=fun {c d s t} hs hc hst h=>by
  refine Classical.byContradiction fun hn=> ?_
  have e:=zhx (a:=0) (b:=s) (n:=(t-s).toNat) (by omega)
  rw [show s+(((t-s).toNat:Nat):Int)=t by omega] at e
  rw [←e,←Nat.mul_assoc] at h
  have:=Nat.eq_of_mul_eq_mul_right (zby 0 s) h
  obtain ⟨k,hk⟩:∃k,(t-s).toNat=k+1:=⟨(t-s).toNat-1,by omega⟩
  rw [hk,Nat.pow_succ,←Nat.mul_assoc] at this
  omega
 have hst:s=t:=by
  rcases Int.le_total s t with hh | hh
  ·exact main hs hc hh h
  ·exact (main ht hd hh h.symm).symm
 subst hst
 exact ⟨Nat.eq_of_mul_eq_mul_right (zby 0 s) h,rfl⟩
end
end Lf

namespace Lf
theorem zdx2 :∀i:Nat,i<696→certP ((i:Int)-348) 8 7=true:=by decide+kernel
theorem zho2 {D r:Nat} (h1:D<r+18446744073709551616) (h2:73786976294838206464≤D):D-18446744073709551616<r:=by omega
theorem WholeOk.up {F N x B D c:Nat} (h:WholeOk F N B D) (hx:x<18446744073709551616) (f1:(N-x)*B<F) (f2:F≤N*B) (hB:0<B) (hD:73786976294838206464≤D) (hc:0<c):WholeOk F N B (c*D):=by
 intro hh
 have hcD:D≤c*D:=Nat.le_mul_of_pos_left D hc
 have hdm:=Nat.div_add_mod N (c*D)
 have hlt:=Nat.mod_lt N (show 0<c*D by omega)
 have em:N%D=N%(c*D)%D:=(Nat.mod_mod_of_dvd N (Nat.dvd_mul_left D c)).symm
 generalize N%(c*D)=ρ at*
 have eq:c*D*(N / (c*D))=(c*(N / (c*D)))*D:=by rw [Nat.mul_assoc,Nat.mul_assoc,Nat.mul_comm D]
 rw [eq] at hdm
 generalize N / (c*D)=q at*
 have eF:∀j,F=B*D*j→(N-x<j*D∧j*D≤N):=fun j hj=>by
  have ej:B*D*j=j*D*B:=by rw [Nat.mul_comm,Nat.mul_comm B,Nat.mul_assoc]
  rw [hj,ej] at f1 f2
  exact ⟨Nat.lt_of_mul_lt_mul_right f1,Nat.le_of_mul_le_mul_right f2 hB⟩
 rcases hh with hh | hh
 ·have e1:N%D=ρ:=by rw [em,Nat.mod_eq_of_lt (by omega)]
  obtain ⟨j,hj⟩:=h (.inl (by omega))
  obtain ⟨j1,j2⟩:=eF j hj
  have:j=c*q:=by
   have t1:j*D<(c*q+1)*D:=by rw [Nat.add_mul,Nat.one_mul];omega
   have t2:c*q*D<(j+1)*D:=by rw [Nat.add_mul,Nat.one_mul];omega
   have t1:=Nat.lt_of_mul_lt_mul_right t1
   have t2:=Nat.lt_of_mul_lt_mul_right t2
   omega
  exact ⟨q,by rw [hj,this];ac_rfl⟩
 ·have e1:N%D=ρ-(c-1)*D:=by
   have e2:c*D=(c-1)*D+D:=by
    obtain ⟨k,rfl⟩:∃k,c=k+1:=⟨c-1,by omega⟩
    rw [Nat.add_sub_cancel,Nat.add_mul,Nat.one_mul]
   have:ρ=ρ-(c-1)*D+(c-1)*D:=by omega
   rw [em,this,Nat.add_mul_mod_self_right,Nat.mod_eq_of_lt (by omega),Nat.add_sub_cancel]
  have e2:c*D=(c-1)*D+D:=by
   obtain ⟨k,rfl⟩:∃k,c=k+1:=⟨c-1,by omega⟩
   rw [Nat.add_sub_cancel,Nat.add_mul,Nat.one_mul]
  have hx2:D-18446744073709551616<N%D:=by
   rw [e1]
   generalize (c-1)*D=z at*
   generalize c*D=y at*
   clear em eF eq h f1 f2 e1 hdm
   exact zho2 (by omega) hD
  obtain ⟨j,hj⟩:=h (.inr hx2)
  obtain ⟨j1,j2⟩:=eF j hj
  exfalso
  have e3:c*q*D+c*D=(c*q+c)*D:=by rw [Nat.add_mul]
  have t1:j*D<(c*q+c)*D:=by rw [←e3];omega
  have t2:(c*q+c-1)*D<j*D:=by
   have:(c*q+c)*D=(c*q+c-1)*D+D:=by
    obtain ⟨k,hk⟩:∃k,c*q+c=k+1:=⟨c*q+c-1,by omega⟩
    rw [hk,Nat.add_sub_cancel,Nat.add_mul,Nat.one_mul]
   omega
  have t1:=Nat.lt_of_mul_lt_mul_right t1
  have t2:=Nat.lt_of_mul_lt_mul_right t2
  omega
def readE (b:Nat) (p:Int):Int:=min 1074 (53-(b:Int)-log2P p)
def readS (b:Nat) (p:Int):Int:= -(readE b p-(64-(b:Int))+log2P p+3)
theorem zwg1 {d b:Nat} {p:Int} (h0: -348≤p) (h1:p≤347) (hb:b≤57) (d0:2^(b-1)≤d) (d1:d<2^b) (b0:1≤b) (hs:readS b p<64):
  8≤readS b p∧ztl (d*2^(64-b)) (hiP p) (loP p) (readS b p).toNat=zav (4*(d*unitW 0 p)) (unitW (-readE b p) 0):=by
 have hl: -1200≤log2P p∧log2P p≤1200:=by unfold log2P;omega
 have hs8:8≤readS b p:=by unfold readS readE;omega
 refine ⟨hs8,?_⟩
 obtain ⟨r1,r2⟩:=zzs1 h0 h1
 obtain ⟨t1,t2,t3⟩:=zhv1 h0 h1
 have hB:0<denP p:=by
  rcases Nat.eq_zero_or_pos (denP p) with h | h
  ·rw [h] at r1 r2;omega
  ·exact h
 have x0:9223372036854775808≤d*2^(64-b):=by
  have:=Nat.mul_le_mul_right (2^(64-b)) d0
  rw [←Nat.pow_add,show b-1+(64-b)=63 by omega] at this
  exact this
 have x1:d*2^(64-b)<18446744073709551616:=by
  have:=Nat.mul_lt_mul_of_pos_right d1 (Nat.two_pow_pos (64-b))
  rw [←Nat.pow_add,show b+(64-b)=64 by omega] at this
  exact this
 have hw8:WholeOk (d*2^(64-b)*numP p) (d*2^(64-b)*pmP p) (denP p) (2^128*2^8):=by
  have c:=zdx2 (p+348).toNat (by omega)
  rw [show (((p+348).toNat:Nat):Int)-348=p by omega] at c
  have e:d*2^(64-b)=2^7*(d*2^(57-b)):=by
   rw [Nat.mul_left_comm,←Nat.pow_add,show 7+(57-b)=64-b by omega]
  have:=zhw1 (y:=d*2^(57-b)) h0 h1 (by decide) c (by omega) (by
   show d*2^(57-b)<2^57
   omega)
  rw [←e] at this
  exact this
 have f1:(d*2^(64-b)*pmP p-d*2^(64-b))*denP p<d*2^(64-b)*numP p:=by
  have e:d*2^(64-b)*pmP p-d*2^(64-b)=d*2^(64-b)*(pmP p-1):=by rw [Nat.mul_sub _ (pmP p),Nat.mul_one]
  rw [e,Nat.mul_assoc]
  exact Nat.mul_lt_mul_of_pos_left r1 (by omega)
 have f2:d*2^(64-b)*numP p≤d*2^(64-b)*pmP p*denP p:=by
  rw [Nat.mul_assoc (d*2^(64-b))]
  exact Nat.mul_le_mul_left _ r2
 have hw:=hw8.up (c:=2^((readS b p).toNat-8)) x1 f1 f2 hB (by decide) (Nat.two_pow_pos _)
 have eD:2^((readS b p).toNat-8)*(2^128*2^8)=2^128*2^(readS b p).toNat:=by
  rw [Nat.mul_left_comm,←Nat.pow_add,show (readS b p).toNat-8+8=(readS b p).toNat by omega]
 rw [eD] at hw
 have big:=zdg1 (x:=d*2^(64-b)) (by omega) t1
 unfold pmP at r1 r2 hw
 rw [zck1 (by omega) x1 t3 r1 r2 hw big]
 refine zmt1 (Nat.mul_pos hB (Nat.mul_pos (Nat.two_pow_pos _) (Nat.two_pow_pos _))) (zby _ _) ?_
 have he:readE b p= -(readS b p)-log2P p-3+(64-(b:Int)):=by unfold readS;omega
 have e1:=ztp1 (a:= -readE b p) (b:=0) h0 h1 (by unfold readE;omega) (by decide)
 have e2:=zcq (a:=0) (b:=p) (n:=130+(readS b p).toNat-(64-b)) (by decide)
 rw [show -readE b p+127-log2P p=0+((130+(readS b p).toNat-(64-b):Nat):Int) by omega,Int.zero_add p,←e2] at e1
 have e3:2^(64-b)*2^(130+(readS b p).toNat-(64-b))=4*(2^128*2^(readS b p).toNat):=by
  rw [←Nat.pow_add,show 64-b+(130+(readS b p).toNat-(64-b))=2+(128+(readS b p).toNat) by omega,Nat.pow_add,Nat.pow_add]
 generalize 2^128*2^(readS b p).toNat=z at*
 generalize 2^(130+(readS b p).toNat-(64-b))=y at*
 generalize 2^(64-b)=w at*
 generalize unitW 0 p=E at*
 rw [Nat.mul_assoc,e1]
 have:w*(denP p*(y*E))=denP p*E*(w*y):=by ac_rfl
 rw [Nat.mul_assoc d,this,e3]
 ac_rfl
end Lf

namespace Lf
def zfx2 (p:Int):Bool:=decide (2^(log2P p).toNat*10^(-p).toNat≤10^p.toNat*2^(-log2P p).toNat)&&decide (9007199254740992*(10^p.toNat*2^(-log2P p).toNat)≤18014398509481983*(2^(log2P p).toNat*10^(-p).toNat))
theorem zdy2 :∀i:Nat,i<696→zfx2 ((i:Int)-348)=true:=by decide+kernel
theorem zaa2 {p:Int} (h0: -348≤p) (h1:p≤347):unitW (log2P p) 0≤unitW 0 p∧9007199254740992*unitW 0 p≤18014398509481983*unitW (log2P p) 0:=by
 have hl: -1200≤log2P p∧log2P p≤1200:=by unfold log2P;omega
 have c:=zdy2 (p+348).toNat (by omega)
 rw [show (((p+348).toNat:Nat):Int)-348=p by omega] at c
 unfold zfx2 at c
 rw [Bool.and_eq_true] at c
 obtain ⟨Z,z0,e1,e2⟩:=zxv p (log2P p) (by omega) (by omega)
 have c1:=Nat.mul_le_mul_right Z (of_decide_eq_true c.1)
 have c2:=Nat.mul_le_mul_right Z (of_decide_eq_true c.2)
 rw [e1,e2] at c1
 rw [Nat.mul_assoc 9007199254740992,Nat.mul_assoc 18014398509481983,e1,e2] at c2
 exact ⟨c1,c2⟩
def readM (u:Nat):Nat:=zar1 (if 36028797018963966≤u then u / 2 ||| u%2 else u)
def readX (u:Nat) (e:Int):Int:=if 36028797018963966≤u then e-1 else e
theorem zdz2 {F G:Nat} (hG:0<G):zav F G / 2 ||| zav F G%2=zav F (2*G):=by
 have hdm:=Nat.div_add_mod F G
 have hlt:=Nat.mod_lt F hG
 have hq:F / (2*G)=F / G / 2:=by rw [Nat.mul_comm,Nat.div_div_eq_div_mul]
 have hdv:2*G ∣ F↔G ∣ F∧F / G%2=0:=by
  constructor
  ·rintro ⟨c,rfl⟩
   have e:2*G*c=G*(2*c):=by ac_rfl
   rw [e,Nat.mul_div_cancel_left _ hG]
   exact ⟨⟨_,rfl⟩,by omega⟩
  ·rintro ⟨⟨c,rfl⟩,h⟩
   rw [Nat.mul_div_cancel_left _ hG] at h
   exact ⟨c / 2,by rw [Nat.mul_comm 2 G,Nat.mul_assoc,show 2*(c / 2)=c by omega]⟩
 unfold zav
 rw [hq]
 by_cases h:G ∣ F
 ·rw [if_pos h,Nat.or_zero]
  by_cases h2:F / G%2=0
  ·rw [if_pos (hdv.2 ⟨h,h2⟩),h2]
  ·rw [if_neg (fun hh=>h2 (hdv.1 hh).2),show F / G%2=1 by omega]
 ·rw [if_neg h,if_neg (fun hh=>h (hdv.1 hh).1),zfv2]
  rw [show (2*(F / G / 2)+1) / 2=F / G / 2 by omega,show (2*(F / G / 2)+1)%2=1 by omega]
section
variable {r:Nat}
theorem zjm2 {X K M:Nat} {odd:Bool} (hK:0<K) (hM:0<M) (ho:odd=(M%2==1)) (h1:if odd=true then (4*M-2)*K<X else (4*M-2)*K≤X) (h2:if odd=true then X<(4*M+2)*K else X≤(4*M+2)*K):
  (if 2*(X%(4*K))<4*K∨(2*(X%(4*K))=4*K∧X / (4*K)%2=0) then X / (4*K) else X / (4*K)+1)=M:=by
 have hT:0<4*K:=by omega
 have hdm:=Nat.div_add_mod X (4*K)
 have hlt:=Nat.mod_lt X hT
 have e1:(4*M-2)*K+2*K=M*(4*K):=by
  rw [←Nat.add_mul,show 4*M-2+2=M*4 by omega,Nat.mul_assoc]
 have e2:(4*M+2)*K=M*(4*K)+2*K:=by rw [Nat.add_mul,Nat.mul_comm 4 M,Nat.mul_assoc]
 have hq:X / (4*K)=M∨X / (4*K)+1=M:=by
  have l1:M*(4*K)<(X / (4*K)+2)*(4*K):=by
   rw [Nat.add_mul,Nat.mul_comm (X / (4*K))]
   cases odd
   ·simp only [Bool.false_eq_true,if_false] at h1 h2;omega
   ·simp only [if_true] at h1 h2;omega
  have l2:X / (4*K)*(4*K)<(M+1)*(4*K):=by
   rw [Nat.add_mul,Nat.mul_comm (X / (4*K))]
   cases odd
   ·simp only [Bool.false_eq_true,if_false] at h1 h2;omega
   ·simp only [if_true] at h1 h2;omega
  have l1:=Nat.lt_of_mul_lt_mul_right l1
  have l2:=Nat.lt_of_mul_lt_mul_right l2
  omega
 rw [Nat.mul_comm (4*K)] at hdm
 generalize X / (4*K)=q at*
 generalize X%(4*K)=ρ at*
 have ev:odd=false↔M%2=0:=by
  rw [ho]
  by_cases h:M%2=1
  ·rw [h];simp
  ·rw [show M%2=0 by omega];simp
 rcases hq with hq | hq
 ·subst hq
  cases odd
  ·have:=ev.1 rfl
   simp only [Bool.false_eq_true,if_false] at h1 h2
   rw [if_pos (by omega)]
  ·simp only [if_true] at h1 h2
   rw [if_pos (by omega)]
 ·have eM:M*(4*K)=q*(4*K)+4*K:=by rw [←hq,Nat.add_mul,Nat.one_mul]
  cases odd
  ·have:=ev.1 rfl
   simp only [Bool.false_eq_true,if_false] at h1 h2
   rw [if_neg (by omega),hq]
  ·simp only [if_true] at h1 h2
   rw [if_neg (by omega),hq]
theorem zuf {a b:Int} (ha: -5000≤a) (h:a≤b):unitW a 0≤unitW b 0:=by
 have e:=zcq (a:=a) (b:=0) (n:=(b-a).toNat) ha
 rw [show a+(((b-a).toNat:Nat):Int)=b by omega] at e
 rw [←e]
 exact Nat.le_mul_of_pos_left _ (Nat.two_pow_pos _)
theorem ztu1 {a b:Int} (hb: -5000≤b) (h:unitW a 0<unitW b 0):a<b:=by
 rcases Int.lt_or_le a b with hh | hh
 ·exact hh
 ·have:=zuf hb hh
  omega
theorem zjg {a b:Int} (n c:Nat) (hc:2^n=c) (ha: -5000≤a) (h:a+(n:Int)=b):c*unitW a 0=unitW b 0:=by
 rw [←hc,zcq ha,h]
theorem zhp2 (h1:0<r) (h2:r<9218868437227405312) {d b:Nat} {p:Int} (p0: -348≤p) (p1:p≤347) (hb:b≤57) (b0:1≤b) (d0:2^(b-1)≤d) (d1:d<2^b) (hin:inF r (d*unitW 0 p)=true):
  readS b p<64∧readM (zav (4*(d*unitW 0 p)) (unitW (-readE b p) 0))=zab r∧ -readX (zav (4*(d*unitW 0 p)) (unitW (-readE b p) 0)) (readE b p)=zac r:=by
 have hl: -1200≤log2P p∧log2P p≤1200:=by unfold log2P;omega
 obtain ⟨eA,eB⟩:=zaa2 p0 p1
 obtain ⟨hz,hm,he,z0,z1,z2,hM⟩:=zrg h1 h2
 obtain ⟨b1,b2,b3,b4,b5, -⟩:=zjn h1 h2
 have hM2:zab r<9007199254740992:=by unfold zab;split<;>omega
 have hU:=zby 0 p
 have hK:=zmy1 r
 have hG:=zby (-readE b p) 0
 have hE:readE b p=min 1074 (53-(b:Int)-log2P p):=rfl
 have X0:2^(b-1)*unitW (log2P p) 0≤d*unitW 0 p:=Nat.mul_le_mul d0 eA
 rw [zcq (by omega)] at X0
 have X1:d*unitW 0 p<2^b*unitW 0 p:=Nat.mul_lt_mul_of_pos_right d1 hU
 have X2:9007199254740992*(2^b*unitW 0 p)≤18014398509481983*unitW (log2P p+b) 0:=by
  have:=Nat.mul_le_mul_left (2^b) eB
  rw [Nat.mul_left_comm,Nat.mul_left_comm (2^b) 18014398509481983,zcq (a:=log2P p) (by omega)] at this
  exact this
 have low:lowF r*kF r≤d*unitW 0 p∧(oddF r=true→lowF r*kF r<d*unitW 0 p):=by
  rw [inF,zml] at hin
  unfold loF at hin
  cases ho:oddF r
  ·rw [ho] at hin;simp only [Bool.false_eq_true,if_false] at hin;exact ⟨hin.1,fun e=>by cases e⟩
  ·rw [ho] at hin;simp only [if_true] at hin;exact ⟨Nat.le_of_lt hin.1,fun _=>hin.1⟩
 have high:d*unitW 0 p≤(4*zab r+2)*kF r∧(oddF r=true→d*unitW 0 p<(4*zab r+2)*kF r):=by
  rw [inF,zml] at hin
  unfold hiF at hin
  cases ho:oddF r
  ·rw [ho] at hin;simp only [Bool.false_eq_true,if_false] at hin;exact ⟨hin.2,fun e=>by cases e⟩
  ·rw [ho] at hin;simp only [if_true] at hin;exact ⟨Nat.le_of_lt hin.2,fun _=>hin.2⟩
 have kmin:unitW (-1076) 0≤kF r:=zuf (by decide) (by omega)
 have lowM:4*zab r-2≤lowF r∧2≤lowF r:=by unfold lowF;split<;>omega
 have hs: -1075<log2P p+b+1:=by
  refine ztu1 (by omega) ?_
  have e1:=zjg 1 2 rfl (a:= -1076) (b:= -1075) (by decide) (by decide)
  have e2:=zjg 1 2 rfl (a:=log2P p+b) (b:=log2P p+b+1) (by omega) (by omega)
  have t1:=Nat.mul_le_mul lowM.2 kmin
  omega
 have hG2:unitW (log2P p+b) 0≤9007199254740992*unitW (-readE b p) 0:=by
  rw [zjg 53 9007199254740992 rfl (a:= -readE b p) (b:= -readE b p+53) (by omega) (by omega)]
  exact zuf (by omega) (by omega)
 have hX:d*unitW 0 p<18014398509481983*unitW (-readE b p) 0:=by omega
 have big: -1073≤zac r→18014398509481983≤lowF r:=fun hk=>by
  have hr:¬r<4503599627370496:=fun h=>by
   have:zac r= -1074:=by unfold zac;rw [if_pos h]
   omega
  have hE2:zac r=((r / 4503599627370496:Nat):Int)-1075:=by unfold zac;rw [if_neg hr]
  have hMM:4503599627370496≤zab r:=by unfold zab;rw [if_neg hr];omega
  unfold lowF
  split
  ·omega
  ·rename_i hn
   have:zab r≠4503599627370496:=fun e=>hn ⟨e,by omega⟩
   omega
 have hkd:kF r=unitW (zac r-2) 0:=rfl
 have up:zac r+readE b p≤1:=by
  refine Classical.byContradiction fun hn=> ?_
  have t1:unitW (-readE b p) 0≤kF r:=zuf (by omega) (by omega)
  have t2:=Nat.mul_le_mul (big (by omega)) t1
  omega
 have down:0≤zac r+readE b p:=by
  refine Classical.byContradiction fun hn=> ?_
  have t1:unitW (zac r+1) 0≤unitW (-readE b p) 0:=zuf (by omega) (by omega)
  rw [←zjg 3 8 rfl (a:=zac r-2) (b:=zac r+1) (by omega) (by omega),←hkd] at t1
  have t2:4503599627370496*unitW (-readE b p) 0=unitW (log2P p+((b-1:Nat):Int)) 0:=zjg 52 4503599627370496 rfl (by omega) (by omega)
  have t3:=Nat.mul_le_mul_right (kF r) (show 4*zab r+2≤36028797018963966 by omega)
  omega
 refine ⟨by unfold readS;omega,?_⟩
 have fin:∀ {U:Nat},U=zav (4*(d*unitW 0 p)) (4*kF r)→zar1 U=zab r:=fun {U} hU=>by
  have hb:U<18446744073709551000:=by
   have c:=(zbv1 (F:=4*(d*unitW 0 p)) (G:=4*kF r) (c:=36028797018963968) (by omega) (by decide)).2
   have t3:=Nat.mul_le_mul_right (kF r) (show 4*zab r+2≤36028797018963966 by omega)
   have:=c.2 (by omega)
   omega
  rw [zhy1 (T:=4*kF r) (F:=d*unitW 0 p) (by omega) hU hb]
  have t1:=Nat.mul_le_mul_right (kF r) lowM.1
  refine zjm2 (odd:=oddF r) hK hM rfl ?_ ?_
  ·cases ho:oddF r
   ·simp only [Bool.false_eq_true,if_false];omega
   ·simp only [if_true];have:=low.2 ho;omega
  ·cases ho:oddF r
   ·simp only [Bool.false_eq_true,if_false];omega
   ·simp only [if_true];exact high.2 ho
 rcases (show zac r+readE b p=0∨zac r+readE b p=1 by omega) with hj | hj
 ·have eG:unitW (-readE b p) 0=4*kF r:=by
   rw [hkd,zjg 2 4 rfl (a:=zac r-2) (b:=zac r) (by omega) (by omega)]
   congr 1;omega
  rw [eG]
  have c:=(zbv1 (F:=4*(d*unitW 0 p)) (G:=4*kF r) (c:=36028797018963966) (by omega) (by decide)).2
  have small:d*unitW 0 p<36028797018963966*kF r:=by
   by_cases ho:oddF r=true
   ·have t3:=Nat.mul_le_mul_right (kF r) (show 4*zab r+2≤36028797018963966 by omega)
    have:=high.2 ho
    omega
   ·have hev:zab r%2≠1:=fun e=>ho (by unfold oddF;rw [e];rfl)
    have t3:=Nat.mul_lt_mul_of_pos_right (show 4*zab r+2<36028797018963966 by omega) hK
    omega
  have lt:=c.2 (by omega)
  refine ⟨?_,?_⟩
  ·unfold readM
   rw [if_neg (by omega)]
   exact fin rfl
  ·unfold readX
   rw [if_neg (by omega)]
   omega
 ·have eG:unitW (-readE b p) 0=2*kF r:=by
   rw [hkd,zjg 1 2 rfl (a:=zac r-2) (b:=zac r-1) (by omega) (by omega)]
   congr 1;omega
  rw [eG]
  have c:=(zbv1 (F:=4*(d*unitW 0 p)) (G:=2*kF r) (c:=36028797018963966) (by omega) (by decide)).2
  have t2:=Nat.mul_le_mul_right (kF r) (big (by omega))
  have ge:36028797018963966≤zav (4*(d*unitW 0 p)) (2*kF r):=by
   refine Nat.le_of_not_lt fun hh=> ?_
   have:=c.1 hh
   omega
  refine ⟨?_,?_⟩
  ·unfold readM
   rw [if_pos ge,zdz2 (by omega)]
   refine fin ?_
   congr 1
   omega
  ·unfold readX
   rw [if_pos ge]
   omega
end
end Lf

namespace Lf
open Ieee
theorem pow_add' (a b:Nat):2^(a+b)=2^a*2^b:=Nat.pow_add 2 a b
def gapD (r:Nat):Nat:=r / 4503599627370496-1
theorem zat1 {r:Nat} (h:r<4503599627370496):valD r=r:=by
 unfold valD zab zac
 rw [if_pos h,if_pos h]
 show r*1=r
 omega
theorem zhq2 {r:Nat} (h:4503599627370496≤r):valD r=(r%4503599627370496+4503599627370496)*2^gapD r:=by
 unfold valD zab zac gapD
 rw [if_neg (by omega),if_neg (by omega),show (((r / 4503599627370496:Nat):Int)-1075+1074).toNat=r / 4503599627370496-1 by omega]
theorem zau1 (E q:Nat) (h:q<4503599627370496):valD ((E+1)*4503599627370496+q)=(q+4503599627370496)*2^E:=by
 rw [zhq2 (by omega)]
 unfold gapD
 rw [show ((E+1)*4503599627370496+q)%4503599627370496=q by omega,show ((E+1)*4503599627370496+q) / 4503599627370496-1=E by omega]
theorem ztv1 (r:Nat):valD (r+1)=valD r+2^gapD r:=by
 by_cases h:r<4503599627370496
 ·have hg:gapD r=0:=by unfold gapD;omega
  rw [zat1 h,hg]
  by_cases h1:r+1<4503599627370496
  ·rw [zat1 h1]
  ·have:r+1=(0+1)*4503599627370496+0:=by omega
   have e1:valD (r+1)=4503599627370496:=by rw [this,zau1 0 0 (by omega),Nat.pow_zero,Nat.mul_one,Nat.zero_add]
   rw [e1,Nat.pow_zero]
   omega
 ·obtain ⟨E,q,hq,rfl⟩:∃E q,q<4503599627370496∧r=(E+1)*4503599627370496+q:=⟨r / 4503599627370496-1,r%4503599627370496,by omega,by omega⟩
  have hg:gapD ((E+1)*4503599627370496+q)=E:=by unfold gapD;omega
  rw [zau1 E q hq,hg]
  by_cases h1:q+1<4503599627370496
  ·rw [show (E+1)*4503599627370496+q+1=(E+1)*4503599627370496+(q+1) by omega,zau1 E (q+1) h1,show q+1+4503599627370496=q+4503599627370496+1 by omega,Nat.succ_mul]
  ·rw [show (E+1)*4503599627370496+q+1=(E+1+1)*4503599627370496+0 by omega,zau1 (E+1) 0 (by omega),pow_add']
   have:q=4503599627370495:=by omega
   subst this
   generalize 2^E=g
   omega
def lowB (r:Nat):Nat:=valD (r-1)+valD r
def highB (r:Nat):Nat:=valD r+valD (r+1)
theorem zfy2 {r s:Nat} (h:r≤s):valD r≤valD s:=by
 rcases Nat.lt_or_eq_of_le h with h | h
 ·exact Nat.le_of_lt (zmo1 h)
 ·rw [h];exact Nat.le_refl _
theorem zdi1 {r s:Nat} (h:r<s):highB r≤lowB s∧(highB r=lowB s→r+1=s):=by
 unfold highB lowB
 have h1:valD r≤valD (s-1):=zfy2 (by omega)
 have h2:valD (r+1)≤valD s:=zfy2 (by omega)
 refine ⟨by omega,fun e=> ?_⟩
 rcases Nat.lt_or_ge (r+1) s with h3 | h3
 ·have:=zmo1 h3
  omega
 ·omega
theorem zhr2 {m:Nat} {e:Int}: -1074≤e+offD m e:=by unfold offD;split<;>omega
theorem ztw1 {m:Nat} {e:Int} (hm:m≠0) (h: -1074<e+offD m e):4503599627370496*2^(offD m e).toNat≤m*2^(-offD m e).toNat∧m*2^(-offD m e).toNat<9007199254740992*2^(offD m e).toNat:=by
 have hoe:offD m e=(bitsN m:Int)-53:=by
  unfold offD at h ⊢
  split
  ·rename_i h';rw [if_pos h'] at h;omega
  ·rfl
 have hb:bitsN m=m.log2+1:=by unfold bitsN;rw [if_neg hm]
 have h2:2^m.log2≤m:=Nat.log2_self_le hm
 have h3:m<2^(m.log2+1):=Nat.lt_log2_self
 rw [hoe,hb]
 generalize m.log2=l at*
 have e1:(4503599627370496:Nat)=2^52:=by decide
 have e2:(9007199254740992:Nat)=2^53:=by decide
 rw [e1,e2,←pow_add',←pow_add']
 refine ⟨?_,?_⟩
 ·calc 2^(52+(((l+1:Nat):Int)-53).toNat)=2^l*2^(-(((l+1:Nat):Int)-53)).toNat:=by rw [←pow_add'];congr 1;omega
   _≤_:=Nat.mul_le_mul_right _ h2
 ·calc m*2^(-(((l+1:Nat):Int)-53)).toNat<2^(l+1)*2^(-(((l+1:Nat):Int)-53)).toNat:=Nat.mul_lt_mul_of_pos_right h3 (Nat.two_pow_pos _)
   _=2^(53+(((l+1:Nat):Int)-53).toNat):=by rw [←pow_add'];congr 1;omega
theorem zhs2 {m:Nat} {e:Int} (hm:m≠0):m*2^(-offD m e).toNat<9007199254740992*2^(offD m e).toNat:=by
 by_cases h: -1074<e+offD m e
 ·exact (ztw1 hm h).2
 ·have hoe:(bitsN m:Int)-53≤offD m e:=by unfold offD;split<;>omega
  have hb:bitsN m=m.log2+1:=by unfold bitsN;rw [if_neg hm]
  have h3:m<2^(m.log2+1):=Nat.lt_log2_self
  rw [hb] at hoe
  generalize m.log2=l at*
  generalize offD m e=o at*
  have e2:(9007199254740992:Nat)=2^53:=by decide
  rw [e2,←pow_add']
  calc m*2^(-o).toNat<2^(l+1)*2^(-o).toNat:=Nat.mul_lt_mul_of_pos_right h3 (Nat.two_pow_pos _)
   _=2^(l+1+(-o).toNat):=by rw [←pow_add']
   _≤_:=Nat.pow_le_pow_right (by decide) (by omega)
theorem zab2 {m:Nat} {o:Int}:2*(m*2^(-o).toNat)≤(2*keptD m o false+1)*2^o.toNat∧2*keptD m o false*2^o.toNat≤2*(m*2^(-o).toNat)+2^o.toNat
  ∧(2*(m*2^(-o).toNat)=(2*keptD m o false+1)*2^o.toNat→keptD m o false%2=0)∧(2*keptD m o false*2^o.toNat=2*(m*2^(-o).toNat)+2^o.toNat→keptD m o false%2=0):=by
 unfold keptD
 by_cases h:o≤0
 ·rw [if_pos h,show o.toNat=0 by omega]
  generalize m*2^(-o).toNat=x
  omega
 ·rw [if_neg h,show (-o).toNat=0 by omega]
  obtain ⟨d,hd⟩:∃d,o.toNat=d+1:=⟨o.toNat-1,by omega⟩
  rw [hd]
  dsimp only
  rw [Nat.add_sub_cancel]
  have hp:2^(d+1)=2*2^d:=by rw [Nat.pow_succ,Nat.mul_comm]
  have hm:=Nat.div_add_mod m (2^(d+1))
  have hr:=Nat.mod_lt m (Nat.two_pow_pos (d+1))
  generalize m%2^(d+1)=r at*
  generalize m / 2^(d+1)=q at*
  rw [hp] at hm hr ⊢
  have hg:=Nat.two_pow_pos d
  generalize 2^d=g at*
  have hm:2*(g*q)+r=m:=by rw [←hm,Nat.mul_assoc]
  have e1:∀k,k*(2*g)=2*(g*k):=fun k=>by rw [Nat.mul_left_comm,Nat.mul_comm k g]
  rw [e1,e1]
  have e2:∀k,g*(2*k+1)=2*(g*k)+g:=fun k=>by rw [Nat.mul_add,Nat.mul_left_comm,Nat.mul_one]
  have e3:∀k,g*(2*k)=2*(g*k):=fun k=>by rw [Nat.mul_left_comm]
  rw [e2,e3]
  split
  ·have e4:g*(q+1)=g*q+g:=by rw [Nat.mul_add,Nat.mul_one]
   rename_i hc
   rw [e4]
   generalize g*q=z at*
   simp only [Bool.false_eq_true,false_or] at hc
   omega
  ·rename_i hc
   generalize g*q=z at*
   simp only [Bool.false_eq_true,false_or] at hc
   omega
theorem cross {X G A P:Nat} (hG:0<G) (hP:0<P) (h:A*G=X*P) (k c:Nat):(k*X≤c*G↔k*A≤c*P)∧(c*G≤k*X↔c*P≤k*A):=by
 have e1:k*A*G=k*X*P:=by rw [Nat.mul_assoc,h,Nat.mul_assoc]
 have e2:c*G*P=c*P*G:=by rw [Nat.mul_assoc,Nat.mul_comm G P,Nat.mul_assoc]
 refine ⟨⟨fun hh=> ?_,fun hh=> ?_⟩,⟨fun hh=> ?_,fun hh=> ?_⟩⟩
 ·refine Nat.le_of_mul_le_mul_right (c:=G) ?_ hG
  rw [e1,←e2]
  exact Nat.mul_le_mul_right _ hh
 ·refine Nat.le_of_mul_le_mul_right (c:=P) ?_ hP
  rw [e2,←e1]
  exact Nat.mul_le_mul_right _ hh
 ·refine Nat.le_of_mul_le_mul_right (c:=G) ?_ hG
  rw [e1,←e2]
  exact Nat.mul_le_mul_right _ hh
 ·refine Nat.le_of_mul_le_mul_right (c:=P) ?_ hP
  rw [e2,←e1]
  exact Nat.mul_le_mul_right _ hh
theorem zna1 {m:Nat} {e:Int} {K:Nat} (hm:m≠0) (hK:0≤e+1074+K):
  ∃q u:Nat,(2*(m*2^(e+1074+K).toNat)≤(2*q+1)*2^(u+K)∧(2*(m*2^(e+1074+K).toNat)=(2*q+1)*2^(u+K)→q%2=0))
   ∧((2*q-1)*2^(u+K)≤2*(m*2^(e+1074+K).toNat)∧(1≤q→(2*q-1)*2^(u+K)=2*(m*2^(e+1074+K).toNat)→q%2=0))
   ∧(u=0∨4503599627370496*2^(u+K)≤m*2^(e+1074+K).toNat)
   ∧(q<4503599627370496∧u=0∧rungD m e false=q∨4503599627370496≤q∧q≤9007199254740992∧rungD m e false=min ((u+1)*4503599627370496+(q-4503599627370496)) 9218868437227405312):=by
 have ho:=zhr2 (m:=m) (e:=e)
 have hX:=zhs2 (e:=e) hm
 have hB:=ztw1 (e:=e) hm
 obtain ⟨n1,n2,n3,n4⟩:=zab2 (m:=m) (o:=offD m e)
 have hr:rungD m e false=(let off:=offD m e;let q:=keptD m off false;if q<4503599627370496 then q else if 2047≤e+off+1075 then 9218868437227405312 else min ((e+off+1075).toNat*4503599627370496+(q-4503599627370496)) 9218868437227405312):=rfl
 dsimp only at hr
 generalize keptD m (offD m e) false=q at*
 generalize offD m e=o at*
 obtain ⟨u,hu⟩:∃u:Nat,e+o+1074=u:=⟨(e+o+1074).toNat,by omega⟩
 have hG:=Nat.two_pow_pos o.toNat
 have hP:=Nat.two_pow_pos (u+K)
 have hc:m*2^(e+1074+K).toNat*2^o.toNat=m*2^(-o).toNat*2^(u+K):=by
  rw [Nat.mul_assoc,Nat.mul_assoc,←pow_add',←pow_add']
  congr 2
  omega
 have hcr:=cross hG hP hc
 generalize m*2^(e+1074+K).toNat=A at*
 generalize m*2^(-o).toNat=X at*
 have m1:∀k,(2*k+1)*2^o.toNat=2*k*2^o.toNat+2^o.toNat:=fun k=>by rw [Nat.succ_mul]
 have n2':(2*q-1)*2^o.toNat≤2*X:=by
  rw [Nat.sub_mul]
  omega
 refine ⟨q,u,⟨(hcr 2 (2*q+1)).1.1 n1,fun e1=> ?_⟩,⟨(hcr 2 (2*q-1)).2.1 n2',fun hq e1=> ?_⟩,?_,?_⟩
 ·refine n3 (Nat.le_antisymm n1 ((hcr 2 (2*q+1)).2.2 (by omega)))
 ·have h1:=(hcr 2 (2*q-1)).1.2 (by omega)
  have h2:=Nat.le_antisymm n2' h1
  refine n4 ?_
  obtain ⟨k,rfl⟩:∃k,q=k+1:=⟨q-1,by omega⟩
  rw [show 2*(k+1)-1=2*k+1 by omega] at h2
  rw [←h2,show 2*(k+1)=(2*k+1)+1 by omega,Nat.succ_mul]
 ·rcases Nat.eq_zero_or_pos u with h0 | h0
  ·exact .inl h0
  ·right
   have:=(hcr 1 4503599627370496).2.1 (by have:=(hB (by omega)).1;omega)
   omega
 ·have q1:q≤9007199254740992:=by
   have h1:2*q*2^o.toNat<(2*9007199254740992+1)*2^o.toNat:=by
    rw [m1]
    have:2*9007199254740992*2^o.toNat=2*(9007199254740992*2^o.toNat):=Nat.mul_assoc _ _ _
    omega
   have:=Nat.lt_of_mul_lt_mul_right h1
   omega
  by_cases hq:q<4503599627370496
  ·rw [if_pos hq] at hr
   refine .inl ⟨hq,?_,hr⟩
   rcases Nat.eq_zero_or_pos u with h0 | h0
   ·exact h0
   ·exfalso
    have h2:=(hB (by omega)).1
    have h1:(2*4503599627370496)*2^o.toNat≤(2*q+1)*2^o.toNat:=by
     have:2*4503599627370496*2^o.toNat=2*(4503599627370496*2^o.toNat):=Nat.mul_assoc _ _ _
     omega
    have:=Nat.le_of_mul_le_mul_right h1 hG
    omega
  ·rw [if_neg hq] at hr
   refine .inr ⟨by omega,q1,?_⟩
   rw [hr]
   split
   ·rw [Nat.min_eq_right]
    omega
   ·rw [show (e+o+1075).toNat=u+1 by omega]
theorem zfz2 {r:Nat} (h:1≤r):lowB r+2^gapD (r-1)=2*valD r:=by
 have:=ztv1 (r-1)
 rw [show r-1+1=r by omega] at this
 unfold lowB
 omega
theorem zkk1 {r:Nat}:highB r=2*valD r+2^gapD r:=by
 have:=ztv1 r
 unfold highB
 omega
theorem znb1 {m:Nat} {e:Int} {K:Nat} (hm:m≠0) (hK:0≤e+1074+K) (hr:rungD m e false<9218868437227405312):
  2*(m*2^(e+1074+K).toNat)≤highB (rungD m e false)*2^K∧(2*(m*2^(e+1074+K).toNat)=highB (rungD m e false)*2^K→rungD m e false%2=0):=by
 obtain ⟨q,u,⟨a1,a2⟩, -, -,h⟩:=zna1 hm hK
 generalize m*2^(e+1074+K).toNat=A at*
 rw [pow_add',←Nat.mul_assoc] at a1 a2
 rcases h with ⟨hq,rfl,hr'⟩ | ⟨hq,hq',hr'⟩
 ·rw [hr',zkk1,zat1 hq,show gapD q=0 by unfold gapD;omega]
  rw [Nat.pow_zero,Nat.mul_one] at a1 a2
  exact ⟨a1,a2⟩
 ·rw [hr'] at hr ⊢
  rw [Nat.min_def] at hr ⊢
  split
  ·rename_i hc
   rcases Nat.lt_or_ge q 9007199254740992 with h1 | h1
   ·have hv:valD ((u+1)*4503599627370496+(q-4503599627370496))=q*2^u:=by
     rw [zau1 u _ (by omega)]
     congr 1
     omega
    have hg:gapD ((u+1)*4503599627370496+(q-4503599627370496))=u:=by unfold gapD;omega
    rw [zkk1,hv,hg]
    have e1:(2*q+1)*2^u=2*(q*2^u)+2^u:=by rw [Nat.succ_mul,Nat.mul_assoc]
    rw [e1] at a1 a2
    exact ⟨a1,fun h2=>by have:=a2 h2;omega⟩
   ·have h1:q=9007199254740992:=by omega
    subst h1
    have e0:(u+1)*4503599627370496+(9007199254740992-4503599627370496)=(u+1+1)*4503599627370496+0:=by omega
    rw [e0,zkk1,zau1 (u+1) 0 (by omega),show gapD ((u+1+1)*4503599627370496+0)=u+1 by unfold gapD;omega]
    have h3:(2*9007199254740992+1)*2^u*2^K<(2*((0+4503599627370496)*2^(u+1))+2^(u+1))*2^K:=by
     refine Nat.mul_lt_mul_of_pos_right ?_ (Nat.two_pow_pos _)
     have:=Nat.two_pow_pos u
     rw [Nat.pow_succ]
     omega
    exact ⟨by omega,fun h2=>by omega⟩
  ·rename_i hc
   rw [if_neg hc] at hr
   omega
theorem zht2 {k:Nat} (hk:k=2046):valD 9218868437227405312=4503599627370496*2^k:=by
 rw [show 9218868437227405312=(k+1)*4503599627370496+0 by omega,zau1 k 0 (by omega),Nat.zero_add]
theorem ztx1 {m:Nat} {e:Int} {K:Nat} (hm:m≠0) (hK:0≤e+1074+K) (hr:1≤rungD m e false):
  lowB (rungD m e false)*2^K≤2*(m*2^(e+1074+K).toNat)∧(lowB (rungD m e false)*2^K=2*(m*2^(e+1074+K).toNat)→rungD m e false%2=0):=by
 have hl:=zfz2 hr
 obtain ⟨q,u, -,⟨a1,a2⟩,a3,h⟩:=zna1 hm hK
 generalize m*2^(e+1074+K).toNat=A at*
 rw [pow_add',←Nat.mul_assoc] at a1 a2 a3
 have strict:∀ {x:Nat},x<2*4503599627370496*2^u→4503599627370496*2^u*2^K≤A→x*2^K≤2*A∧x*2^K≠2*A:=fun {x} h1 h2=>by
  have h3:=Nat.mul_lt_mul_of_pos_right h1 (Nat.two_pow_pos K)
  have h4:2*4503599627370496*2^u*2^K=2*(4503599627370496*2^u*2^K):=by rw [Nat.mul_assoc 2,Nat.mul_assoc 2]
  omega
 rcases h with ⟨hq,rfl,hr'⟩ | ⟨hq,hq',hr'⟩
 ·rw [hr'] at hr hl ⊢
  rw [zat1 hq,show gapD (q-1)=0 by unfold gapD;omega] at hl
  rw [Nat.pow_zero,Nat.mul_one] at a1 a2
  rw [show lowB q=2*q-1 by omega]
  exact ⟨a1,a2 hr⟩
 ·rw [Nat.min_def] at hr'
  by_cases hc:(u+1)*4503599627370496+(q-4503599627370496)≤9218868437227405312
  ·rw [if_pos hc] at hr'
   rw [hr'] at hr hl ⊢
   have hv:valD ((u+1)*4503599627370496+(q-4503599627370496))=q*2^u:=by
    rcases Nat.lt_or_ge q 9007199254740992 with h1 | h1
    ·rw [zau1 u _ (by omega),Nat.sub_add_cancel hq]
    ·have h1:q=9007199254740992:=by omega
     subst h1
     rw [show (u+1)*4503599627370496+(9007199254740992-4503599627370496)=(u+1+1)*4503599627370496+0 by omega,zau1 (u+1) 0 (by omega),Nat.pow_succ]
     omega
   rw [hv] at hl
   have e1:(2*q-1)*2^u+2^u=2*(q*2^u):=by rw [←Nat.succ_mul,←Nat.mul_assoc,show (2*q-1).succ=2*q by omega]
   by_cases h1:4503599627370496<q∨u=0
   ·have hg:gapD ((u+1)*4503599627370496+(q-4503599627370496)-1)=u:=by unfold gapD;omega
    rw [hg] at hl
    rw [show lowB ((u+1)*4503599627370496+(q-4503599627370496))=(2*q-1)*2^u by omega]
    exact ⟨a1,fun h2=>by have:=a2 (by omega) h2;omega⟩
   ·have h1:q=4503599627370496:=by omega
    subst h1
    have:=Nat.two_pow_pos (gapD ((u+1)*4503599627370496+(4503599627370496-4503599627370496)-1))
    have h5:=strict (x:=lowB ((u+1)*4503599627370496+(4503599627370496-4503599627370496))) (by rw [Nat.mul_assoc];omega) (by omega)
    exact ⟨h5.1,fun h2=>absurd h2 h5.2⟩
  ·rw [if_neg hc] at hr'
   rw [hr'] at hr hl ⊢
   obtain ⟨T,hT⟩:∃T:Nat,T=2045:=⟨2045,rfl⟩
   have hv:valD 9218868437227405312=4503599627370496*2^(T+1):=zht2 (by omega)
   have hg:gapD (9218868437227405312-1)=T:=by unfold gapD;omega
   have hps:(2:Nat)^(T+1)=2^T*2:=Nat.pow_succ 2 T
   rw [hv,hg] at hl
   rcases Nat.lt_or_ge u (T+1) with h1 | h1
   ·have h2:u=T:=by omega
    have h3:q=9007199254740992:=by omega
    subst h2;subst h3
    omega
   ·have h2:4503599627370496*2^(T+1)≤4503599627370496*2^u:=Nat.mul_le_mul_left _ (Nat.pow_le_pow_right (by decide) h1)
    have:=Nat.two_pow_pos T
    have h5:=strict (x:=lowB 9218868437227405312) (by rw [Nat.mul_assoc];omega) (by omega)
    exact ⟨h5.1,fun h2=>absurd h2 h5.2⟩
theorem zhu2 {m:Nat} {e:Int} {K r:Nat} (hm:m≠0) (hK:0≤e+1074+K) (hr:r≤9218868437227405312)
  (h1:r=0∨lowB r*2^K<2*(m*2^(e+1074+K).toNat)∨(lowB r*2^K=2*(m*2^(e+1074+K).toNat)∧r%2=0))
  (h2:r=9218868437227405312∨2*(m*2^(e+1074+K).toNat)<highB r*2^K∨(2*(m*2^(e+1074+K).toNat)=highB r*2^K∧r%2=0)):rungD m e false=r:=by
 have hle:=zdc1 (m:=m) (e:=e) (b:=false)
 have hh:=znb1 (e:=e) hm hK
 have hl:=ztx1 (e:=e) hm hK
 generalize rungD m e false=s at*
 generalize m*2^(e+1074+K).toNat=A at*
 rcases Nat.lt_trichotomy s r with h | h | h
 ·exfalso
  obtain ⟨c1,c2⟩:=zdi1 h
  obtain ⟨d1,d2⟩:=hh (by omega)
  have c3:=Nat.mul_le_mul_right (2^K) c1
  have e1:lowB r*2^K=2*A∧r%2=0:=by omega
  have e2:highB s*2^K=lowB r*2^K:=by omega
  have e3:=Nat.eq_of_mul_eq_mul_right (Nat.two_pow_pos K) e2
  have:=d2 (by omega)
  have:=c2 e3
  omega
 ·exact h
 ·exfalso
  obtain ⟨c1,c2⟩:=zdi1 h
  obtain ⟨d1,d2⟩:=hl (by omega)
  have c3:=Nat.mul_le_mul_right (2^K) c1
  have e1:2*A=highB r*2^K∧r%2=0:=by omega
  have e2:highB r*2^K=lowB s*2^K:=by omega
  have e3:=Nat.eq_of_mul_eq_mul_right (Nat.two_pow_pos K) e2
  have:=d2 (by omega)
  have:=c2 e3
  omega
theorem zac2 {m n:Nat} {e f:Int} {K:Nat} (hm:m≠0) (hn:n≠0) (he:0≤e+1074+K) (hf:0≤f+1074+K) (h:m*2^(e+1074+K).toNat≤n*2^(f+1074+K).toNat):rungD m e false≤rungD n f false:=by
 rcases Nat.lt_or_ge (rungD n f false) (rungD m e false) with hlt | hge
 ·exfalso
  have hle:=zdc1 (m:=m) (e:=e) (b:=false)
  obtain ⟨a1,a2⟩:=znb1 hn hf (by omega)
  obtain ⟨b1,b2⟩:=ztx1 hm he (by omega)
  obtain ⟨c1,c2⟩:=zdi1 hlt
  have c3:=Nat.mul_le_mul_right (2^K) c1
  generalize m*2^(e+1074+K).toNat=A at*
  generalize n*2^(f+1074+K).toNat=B at*
  have e2:highB (rungD n f false)*2^K=lowB (rungD m e false)*2^K:=by omega
  have e3:=c2 (Nat.eq_of_mul_eq_mul_right (Nat.two_pow_pos K) e2)
  have:=a2 (by omega)
  have:=b2 (by omega)
  omega
 ·exact hge
end Lf

namespace Lf
section
variable {r:Nat}
theorem zkl1 (h1:0<r):lowB r*unitW (-1074) 0=2*loF r∧highB r*unitW (-1074) 0=2*hiF r:=by
 have hl:=zfz2 (r:=r) h1
 have hh:=zkk1 (r:=r)
 have hk:zac r=(gapD r:Int)-1074∧valD r=zab r*2^gapD r:=by
  unfold valD zac gapD
  split
  ·rename_i h
   rw [show r / 4503599627370496-1=0 by omega]
   exact ⟨by omega,rfl⟩
  ·rename_i h
   refine ⟨by omega,?_⟩
   congr 2;omega
 have eK:2^gapD r*unitW (-1074) 0=4*kF r:=by
  rw [zcq (by decide)]
  unfold kF
  rw [zjg 2 4 rfl (a:=zac r-2) (b:=zac r) (by omega) (by omega)]
  congr 1;omega
 have eV:valD r*unitW (-1074) 0=4*zab r*kF r:=by rw [hk.2,Nat.mul_assoc,eK];ac_rfl
 have hM:1≤zab r:=by unfold zab;split<;>omega
 constructor
 ·by_cases hs:zab r=4503599627370496∧1<r / 4503599627370496
  ·have hm:r%4503599627370496=0:=by
    have:=hs.1
    unfold zab at this
    split at this<;>omega
   have hg:gapD r=gapD (r-1)+1:=by unfold gapD;omega
   have e2:2^gapD (r-1)*unitW (-1074) 0=2*kF r:=by
    rw [hg,Nat.pow_succ,Nat.mul_right_comm] at eK
    omega
   have e3:lowF r=4*zab r-1:=by unfold lowF;rw [if_pos hs]
   have:=congrArg (· *unitW (-1074) 0) hl
   rw [Nat.add_mul,e2,Nat.mul_assoc 2,eV] at this
   unfold loF
   rw [e3,Nat.sub_mul,Nat.one_mul]
   have t:=Nat.mul_le_mul_right (kF r) hM
   rw [Nat.mul_assoc] at this ⊢
   omega
  ·have hg:gapD (r-1)=gapD r:=by
    unfold zab at hs
    unfold gapD
    split at hs<;>omega
   have e3:lowF r=4*zab r-2:=by unfold lowF;rw [if_neg hs]
   have:=congrArg (· *unitW (-1074) 0) hl
   rw [Nat.add_mul,hg,eK,Nat.mul_assoc 2,eV] at this
   unfold loF
   rw [e3,Nat.sub_mul]
   have t:=Nat.mul_le_mul_right (kF r) hM
   rw [Nat.mul_assoc] at this ⊢
   omega
 ·have:=congrArg (· *unitW (-1074) 0) hh
  rw [Nat.add_mul,eK,Nat.mul_assoc 2,eV] at this
  unfold hiF
  rw [Nat.add_mul,this]
  omega
theorem odd_r :oddF r=(r%2==1):=by
 unfold oddF zab
 split
 ·rfl
 ·rw [show (r%4503599627370496+4503599627370496)%2=r%2 by omega]
theorem zqt1 (h1:0<r) (h2:r<9218868437227405312) {m:Nat} {e:Int} (hm:m≠0) (he: -3000≤e) (hin:inF r (m*unitW e 0)=true):rungD m e false=r:=by
 obtain ⟨bl,bh⟩:=zkl1 h1
 obtain ⟨K,hK⟩:∃K:Nat,K=(-e-1074).toNat:=⟨_,rfl⟩
 have hw:=zby (-1074-(K:Int)) 0
 have eK:2^K*unitW (-1074-(K:Int)) 0=unitW (-1074) 0:=by
  rw [zcq (by omega)];congr 1;omega
 have eA:m*2^(e+1074+(K:Int)).toNat*unitW (-1074-(K:Int)) 0=m*unitW e 0:=by
  rw [Nat.mul_assoc,zcq (by omega)];congr 2;omega
 rw [←eK,←Nat.mul_assoc] at bl bh
 rw [inF,zml,←eA] at hin
 refine zhu2 (K:=K) hm (by omega) (by omega) (.inr ?_) (.inr ?_)
 ·generalize m*2^(e+1074+(K:Int)).toNat=A at*
  generalize lowB r*2^K=L at*
  generalize unitW (-1074-(K:Int)) 0=w at*
  have c:∀ {x y:Nat},x*w<y*w→x<y:=fun h=>Nat.lt_of_mul_lt_mul_right h
  cases ho:oddF r
  ·rw [ho] at hin
   simp only [Bool.false_eq_true,if_false] at hin
   rw [odd_r] at ho
   have ho:r%2=0:=by
    rcases Nat.mod_two_eq_zero_or_one r with h | h
    ·exact h
    ·rw [h] at ho;cases ho
   have:L*w≤(2*A)*w:=by rw [bl,Nat.mul_assoc];omega
   have:=Nat.le_of_mul_le_mul_right this hw
   omega
  ·rw [ho] at hin
   simp only [if_true] at hin
   have:L*w<(2*A)*w:=by rw [bl,Nat.mul_assoc];omega
   exact .inl (c this)
 ·generalize m*2^(e+1074+(K:Int)).toNat=A at*
  generalize highB r*2^K=H at*
  generalize unitW (-1074-(K:Int)) 0=w at*
  have c:∀ {x y:Nat},x*w<y*w→x<y:=fun h=>Nat.lt_of_mul_lt_mul_right h
  cases ho:oddF r
  ·rw [ho] at hin
   simp only [Bool.false_eq_true,if_false] at hin
   rw [odd_r] at ho
   have ho:r%2=0:=by
    rcases Nat.mod_two_eq_zero_or_one r with h | h
    ·exact h
    ·rw [h] at ho;cases ho
   have:(2*A)*w≤H*w:=by rw [bh,Nat.mul_assoc];omega
   have:=Nat.le_of_mul_le_mul_right this hw
   omega
  ·rw [ho] at hin
   simp only [if_true] at hin
   have:(2*A)*w<H*w:=by rw [bh,Nat.mul_assoc];omega
   exact .inl (c this)
end
end Lf

namespace Lf
theorem zwh1 {q:Nat} (hq:q≠0):bitsN (2*q+1)=bitsN q+1:=by
 unfold bitsN
 rw [if_neg hq,if_neg (by omega)]
 have e:(2*q+1) / 2=q:=by omega
 rw [Nat.log2_def,if_pos (by omega),e]
theorem zad2 {q:Nat} {e:Int} (hq:1152921504606846976≤q):rungD q e true=rungD (2*q+1) (e-1) false:=by
 have hb:=zwh1 (q:=q) (by omega)
 have h61:61≤bitsN q:=by
  refine Nat.le_of_not_lt fun h=> ?_
  have h1:=zqj q
  have h2:2^bitsN q≤2^60:=Nat.pow_le_pow_right (by decide) (by omega)
  omega
 have ho:offD (2*q+1) (e-1)=offD q e+1:=by
  unfold offD
  rw [hb]
  split<;>split<;>omega
 have ho1:8≤offD q e:=by unfold offD;split<;>omega
 have hk:keptD (2*q+1) (offD q e+1) false=keptD q (offD q e) true:=by
  unfold keptD
  obtain ⟨o,e0⟩:∃o:Nat,offD q e=(o:Int)+1:=⟨(offD q e-1).toNat,by omega⟩
  rw [e0,if_neg (show ¬((o:Int)+1+1≤0) by omega),if_neg (show ¬((o:Int)+1≤0) by omega)]
  dsimp only
  rw [show ((o:Int)+1+1).toNat=o+1+1 by omega,show ((o:Int)+1).toNat=o+1 by omega,show o+1+1-1=o+1 from rfl,show o+1-1=o from rfl]
  have e1:(2*q+1) / 2^(o+1+1)=q / 2^(o+1):=by
   rw [Nat.pow_succ 2 (o+1),Nat.mul_comm _ 2,←Nat.div_div_eq_div_mul,show (2*q+1) / 2=q by omega]
  have e2:(2*q+1)%2^(o+1+1)=2*(q%2^(o+1))+1:=by
   have d1:=Nat.div_add_mod (2*q+1) (2^(o+1+1))
   have d2:=Nat.div_add_mod q (2^(o+1))
   rw [e1,Nat.pow_succ 2 (o+1),Nat.mul_comm _ 2,Nat.mul_assoc] at d1
   rw [Nat.pow_succ 2 (o+1),Nat.mul_comm _ 2]
   generalize 2^(o+1)*(q / 2^(o+1))=z at*
   omega
  rw [e1,e2]
  have e3:2^(o+1)=2*2^o:=by rw [Nat.pow_succ,Nat.mul_comm]
  generalize q%2^(o+1)=ρ at*
  rw [e3]
  generalize 2^o=g at*
  by_cases h:g≤ρ
  ·rw [if_pos (.inl (by omega)),if_pos (by
    rcases Nat.lt_or_ge g ρ with h' | h'
    ·exact .inl h'
    ·exact .inr ⟨by omega,.inl rfl⟩)]
  ·rw [if_neg (fun hh=>by omega),if_neg (fun hh=>by omega)]
 unfold rungD
 dsimp only
 rw [ho,hk,show e-1+(offD q e+1)+1075=e+offD q e+1075 by omega]
section
variable {r:Nat}
theorem zhv2 (h1:0<r) (h2:r<9218868437227405312) {q X:Nat} {e:Int} (hq:1152921504606846976≤q) (he: -2900≤e) (x0:q*unitW e 0<X) (x1:X<(q+1)*unitW e 0) (hin:inF r X=true):rungD q e true=r:=by
 rw [zad2 hq]
 obtain ⟨hz,hm,he2,z0,z1,z2,hM⟩:=zrg h1 h2
 have hM2:zab r<9007199254740992:=by unfold zab;split<;>omega
 obtain ⟨b1,b2,b3,b4,b5, -⟩:=zjn h1 h2
 have hE:=zby e 0
 have hk:e<zac r-2:=by
  refine ztu1 (by omega) ?_
  rw [inF,zml] at hin
  have hi:X≤hiF r:=by
   cases ho:oddF r
   ·rw [ho] at hin;simp only [Bool.false_eq_true,if_false] at hin;exact hin.2
   ·rw [ho] at hin;simp only [if_true] at hin;exact Nat.le_of_lt hin.2
  have t1:=Nat.mul_le_mul_right (unitW e 0) hq
  have t2:=Nat.mul_le_mul_right (kF r) (show 4*zab r+2≤36028797018963966 by omega)
  have:hiF r=(4*zab r+2)*kF r:=rfl
  show unitW e 0<kF r
  omega
 have eK:kF r=2^(zac r-2-e).toNat*unitW e 0:=by
  rw [zcq (by omega)]
  unfold kF
  congr 1;omega
 have eE:unitW e 0=2*unitW (e-1) 0:=(zjg 1 2 rfl (by omega) (by omega)).symm
 refine zqt1 h1 h2 (by omega) (by omega) ?_
 rw [inF,zml] at hin ⊢
 have lo:loF r=lowF r*2^(zac r-2-e).toNat*unitW e 0:=by unfold loF;rw [eK,Nat.mul_assoc]
 have hi:hiF r=(4*zab r+2)*2^(zac r-2-e).toNat*unitW e 0:=by unfold hiF;rw [eK,Nat.mul_assoc]
 have hin':loF r≤X∧X≤hiF r:=by
  cases ho:oddF r
  ·rw [ho] at hin;simp only [Bool.false_eq_true,if_false] at hin;exact hin
  ·rw [ho] at hin;simp only [if_true] at hin;omega
 clear hin
 rw [lo,hi] at hin' ⊢
 generalize lowF r*2^(zac r-2-e).toNat=c1 at*
 generalize (4*zab r+2)*2^(zac r-2-e).toNat=c2 at*
 have g1:c1<q+1:=Nat.lt_of_mul_lt_mul_right (Nat.lt_of_le_of_lt hin'.1 x1)
 have g2:q<c2:=Nat.lt_of_mul_lt_mul_right (Nat.lt_of_lt_of_le x0 hin'.2)
 have t1:=Nat.mul_le_mul_right (unitW e 0) (show c1≤q by omega)
 have t2:=Nat.mul_le_mul_right (unitW e 0) (show q+1≤c2 by omega)
 have hE1:=zby (e-1) 0
 have e4:(2*q+1)*unitW (e-1) 0=q*unitW e 0+unitW (e-1) 0:=by rw [Nat.add_mul,Nat.one_mul,eE,Nat.mul_comm 2 q,Nat.mul_assoc]
 rw [Nat.add_mul,Nat.one_mul] at t2
 rw [e4]
 cases ho:oddF r
 ·simp only [Bool.false_eq_true,if_false];omega
 ·simp only [if_true];omega
end
end Lf

namespace Lf
theorem znc1 {a b:Nat} (ha:0<a) (h:a<b):hiF a≤loF b∧(hiF a=loF b→a+1=b):=by
 obtain ⟨-,e1⟩:=zkl1 ha
 obtain ⟨e2, -⟩:=zkl1 (r:=b) (by omega)
 obtain ⟨c1,c2⟩:=zdi1 h
 have t:=Nat.mul_le_mul_right (unitW (-1074) 0) c1
 refine ⟨by omega,fun he=>c2 ?_⟩
 refine Nat.eq_of_mul_eq_mul_right (zby (-1074) 0) ?_
 omega
theorem zty1 {r X:Nat} (h:inF r X=true):loF r≤X∧X≤hiF r∧(r%2=1→loF r<X∧X<hiF r):=by
 rw [inF,zml] at h
 cases ho:oddF r
 ·rw [ho] at h
  simp only [Bool.false_eq_true,if_false] at h
  rw [odd_r] at ho
  exact ⟨h.1,h.2,fun e=>by rw [e] at ho;cases ho⟩
 ·rw [ho] at h
  simp only [if_true] at h
  exact ⟨Nat.le_of_lt h.1,Nat.le_of_lt h.2,fun _=>h⟩
theorem zjn2 {r X:Nat} (h0:loF r≤X) (h1:X≤hiF r) (h2:r%2=1→loF r<X∧X<hiF r):inF r X=true:=by
 rw [inF,zml]
 cases ho:oddF r
 ·simp only [Bool.false_eq_true,if_false];exact ⟨h0,h1⟩
 ·simp only [if_true]
  rw [odd_r] at ho
  exact h2 (by simpa using ho)
theorem zae2 {a b X:Nat} (ha:0<a) (hb:0<b) (h1:inF a X=true) (h2:inF b X=true):a=b:=by
 have main:∀ {a b:Nat},0<a→inF a X=true→inF b X=true→¬a<b:=fun {a b} ha h1 h2 h=>by
  obtain ⟨c1,c2⟩:=znc1 ha h
  obtain ⟨x1,x2,x3⟩:=zty1 h1
  obtain ⟨y1,y2,y3⟩:=zty1 h2
  have e:=c2 (by omega)
  rcases Nat.mod_two_eq_zero_or_one a with p | p
  ·have:=y3 (by omega);omega
  ·have:=x3 p;omega
 rcases Nat.lt_trichotomy a b with h | h | h
 ·exact absurd h (main ha h1 h2)
 ·exact h
 ·exact absurd h (main hb h2 h1)
end Lf

namespace Lf
def topOk (n:Int):Bool:=decide (-400≤Int.tdiv (n*30103) 100000∧Int.tdiv (n*30103) 100000≤400)&&decide (2^(n+1).toNat*10^(-(Int.tdiv (n*30103) 100000+3)).toNat≤10^(Int.tdiv (n*30103) 100000+3).toNat*2^(-(n+1)).toNat)
theorem zaf2 :∀i:Nat,i<2100→topOk ((i:Int)-1074)=true:=by decide+kernel
section
variable {r:Nat}
def twoF (r:Nat):Int:=zac r+((bitsN (zab r):Int)-1)
theorem zga2 {n:Int} (h0: -1074≤n) (h1:n≤1023): -400≤Int.tdiv (n*30103) 100000∧Int.tdiv (n*30103) 100000≤400:=by
 have c:=zaf2 (n+1074).toNat (by omega)
 rw [show (((n+1074).toNat:Nat):Int)-1074=n by omega] at c
 unfold topOk at c
 rw [Bool.and_eq_true] at c
 exact of_decide_eq_true c.1
theorem zhw2 (h1:0<r) (h2:r<9218868437227405312):vF r<unitW 0 (Int.tdiv (twoF r*30103) 100000+3):=by
 obtain ⟨b1,b2,b3,b4,b5, -⟩:=zjn h1 h2
 have hb:=zqj (zab r)
 have ht: -1074≤twoF r∧twoF r≤1023:=by unfold twoF;omega
 have c:=zaf2 (twoF r+1074).toNat (by omega)
 rw [show (((twoF r+1074).toNat:Nat):Int)-1074=twoF r by omega] at c
 unfold topOk at c
 rw [Bool.and_eq_true] at c
 have hx:=of_decide_eq_true c.1
 obtain ⟨Z,z0,e1,e2⟩:=zxv (Int.tdiv (twoF r*30103) 100000+3) (twoF r+1) (by omega) (by omega)
 have c1:=Nat.mul_le_mul_right Z (of_decide_eq_true c.2)
 rw [e1,e2] at c1
 have e3:vF r=zab r*unitW (zac r) 0:=by
  unfold vF kF
  rw [←zjg 2 4 rfl (a:=zac r-2) (b:=zac r) (by omega) (by omega)]
  ac_rfl
 have e4:=Nat.mul_lt_mul_of_pos_right hb (zby (zac r) 0)
 rw [zcq (by omega),show zac r+((bitsN (zab r):Nat):Int)=twoF r+1 by unfold twoF;omega] at e4
 omega
end
end Lf

namespace Lf
open Go Go.Proofs
def zff1 (u:Nat) (zs:List Nat):Prop:=∃n,zs=digL n u∧u<10^n∧1≤n∧(n=1∨10^(n-1)≤u)
def signL (i:Int):List Nat:=if i<0 then [45] else []
theorem zag2 :∀i,i<10→(ByteArray.extract ⟨#[48,49,50,51,52,53,54,55,56,57,97,98,99,100,101,102,103,104,105,106,107,108,109,110,111,112,113,114,115,116,117,118,119,120,121,122]⟩ i (i+1)).data=(strN (digL 1 i)).data:=by decide+kernel
theorem zah2 :∀i,i<100→(ByteArray.extract ⟨bl200.toArray⟩ (i*2) (i*2+2)).data=(strN (digL 2 i)).data:=by decide+kernel
theorem zug {a b:ByteArray} (h:a.data=b.data):a=b:=by cases a;cases b;cases h;rfl
section
variable {h:Hp}
theorem zqu1 {i:Nat} {Q:ByteArray→Hp→Prop} (hi:i<100) (hk:∀zs,zff1 i zs→Q (strN zs) h):zgx Tryz.prog i Q h:=by
 unfold zgx
 by_cases h10:i<10
 ·refine iteT (decide_eq_true (by omega)) ?_
  have e1:IntKind.wrap .i64 ((i:Int)+1)=((i+1:Nat):Int):=by rw [zae (by omega) (by omega)];omega
  rw [e1,Int.toNat_natCast,Int.toNat_natCast,zug (zag2 i h10)]
  exact ⟨⟨by omega,by omega,by omega⟩,hk _ ⟨1,rfl,by omega,by omega,.inl rfl⟩⟩
 ·refine iteF (fun hh=>h10 (by have:=of_decide_eq_true hh;omega)) ?_
  have e1:IntKind.wrap .i64 ((i:Int)*2)=((i*2:Nat):Int):=by rw [zae (by omega) (by omega)];omega
  have e2:IntKind.wrap .i64 (((i*2:Nat):Int)+2)=((i*2+2:Nat):Int):=by rw [zae (by omega) (by omega)];omega
  rw [e1,e2,Int.toNat_natCast,Int.toNat_natCast]
  have:=hk (digL 2 i) ⟨2,rfl,by omega,by omega,.inr (by omega)⟩
  rw [←zug (zah2 i hi)] at this
  exact ⟨⟨by omega,by omega,by omega⟩,this⟩
theorem zdj1 {b o n c:Nat} {cs:List Value} {zs:List Nat} (kb:Blk h b cs) (hn:n=zs.length) (e:(cs.drop o).take zs.length=zs.flatMap eN):Rw h 1 eN ⟨some ⟨b,o,none⟩,n,c⟩ zs:=
 ⟨hn,kb.rd (by rw [zfv zyj]) (by rw [Nat.mul_one];exact e)⟩
theorem zcm1 {i:Int} {Q:ByteArray→Hp→Prop} (i0: -9223372036854775808≤i) (i1:i<9223372036854775808) (t:zre h) (hk:∀zs h',h≤h'→zff1 i.natAbs zs→Q (strN (signL i++zs)) h'):zev Tryz.prog i (10:Int) Q h:=by
 unfold zev
 refine iteT (by decide) (letW ?_)
 by_cases hs:0≤i∧i<100
 ·refine iteT (by rw [decide_eq_true hs.1,decide_eq_true hs.2];rfl) ?_
  obtain ⟨n,rfl⟩:∃n:Nat,i=n:=⟨i.toNat,by omega⟩
  refine zrd (zqu1 (by omega) fun zs hz=> ?_)
  have:=hk zs h (Hp.le_refl h) (by rw [Int.natAbs_natCast];exact hz)
  unfold signL at this
  rw [if_neg (by omega)] at this
  exact this
 ·refine iteF (fun hh=>hs (by rw [Bool.and_eq_true] at hh;exact ⟨of_decide_eq_true hh.1,of_decide_eq_true hh.2⟩)) ?_
  intro b ty hb
  generalize hbuf: [Value.int .u8 (0:Int),_,_,_,_,_,_,_,_,_,_,_,_,_,_,_,_,_,_,_,_,_,_,_]=buf
  have hbl:buf.length=24:=by rw [←hbuf];rfl
  have hle:=ziv (o:=.cells buf.toArray ty (0,0)) hb
  have kb:Blk (h.set b (.cells buf.toArray ty (0,0))) b buf:=⟨ty,zec⟩
  clear hbuf
  generalize h.set b (.cells buf.toArray ty (0,0))=h1 at*
  have hu0:i.natAbs≠0:=by omega
  have hul:i.natAbs<18446744073709551616:=by omega
  refine JoinW1.intro (fun u k=>k=h1∧u=((i.natAbs:Nat):Int)) ?_ ?_
  ·by_cases hn:i<0
   ·refine iteT (decide_eq_true hn) ⟨rfl,?_⟩
    rw [zan,zan]
    omega
   ·refine iteF (fun hh=>hn (of_decide_eq_true hh)) ⟨rfl,?_⟩
    rw [zan]
    omega
  rintro u h1 ⟨rfl,rfl⟩
  refine zhe (zcl1 hu0 hul (zbd hle t) fun n n1 n20 dn dn1=> ?_)
  have e1:IntKind.wrap .i64 ((1:Int)+(n:Int))=((n+1:Nat):Int):=by rw [zae (by omega) (by omega)];omega
  rw [e1,Int.toNat_natCast]
  have eb1:sbase (some ⟨b,0,none⟩) 1 1 24=some ⟨b,1,none⟩:=by unfold sbase;rw [if_neg (by decide)];show some (Addr.add _ _)=_;rw [box_add]
  have eb0:sbase (some ⟨b,0,none⟩) 1 0 24=some ⟨b,0,none⟩:=by unfold sbase;rw [if_neg (by decide)];show some (Addr.add _ _)=_;rw [box_add]
  rw [eb1]
  refine ⟨⟨by decide,by omega,by omega⟩,letW ?_⟩
  refine zfm (zmv1 (a:=⟨some ⟨b,1,none⟩,n+1-1,23⟩) rfl (by show 1+(n+1-1)≤_;omega) (by show n+1-1<_;omega) kb dn1 hul fun h2 mv k2=> ?_)
  have k2:Blk h2 b (buf.take 1++digV n i.natAbs++buf.drop (1+n)):=k2
  have hle2:h≤h2:=fun c o hc=>mv.keep c o (hle c o hc) (by simp only [List.mem_singleton];intro e;rw [e,hb] at hc;cases hc)
  have txt:zff1 i.natAbs (digL n i.natAbs):=⟨n,rfl,dn1,n1,.inr dn⟩
  have hin:=zbx1 n i.natAbs
  have hdl:=zmm n i.natAbs
  have hdv:digV n i.natAbs=(digL n i.natAbs).flatMap eN:=by rw [zki1,zia1]
  rw [hdv] at k2
  generalize digL n i.natAbs=zs at*
  have tl:(buf.take 1).length=1:=by rw [List.length_take];omega
  have fl:(zs.flatMap eN).length=n:=by rw [zfv zyj,Nat.mul_one,hdl]
  by_cases hneg:i<0
  ·refine iteT (decide_eq_true hneg) ⟨by decide,?_⟩
   have ea:Addr.add (⟨b,0,none⟩:Addr) 0=⟨b,0,none⟩:=by rw [box_add]
   rw [ea,eb0]
   refine put1 k2 (by rw [List.length_append,List.length_append,tl];omega) fun h3 mv3 k3=>⟨by omega,letW ⟨strN (45::zs),zrf (e:=5) (l:=⟨some ⟨b,0,none⟩,n+1-0,24⟩) (tb_ok.und _ ty74 rfl) (tb_ok.und _ ty5 rfl) (tb_ok.und _ ty9 rfl) (zdj1 k3 (by rw [List.length_cons];omega) ?_) (fun x hx=> ?_),?_⟩⟩
   ·cases hq:buf.take 1 with
    | nil=>rw [hq] at tl;cases tl
    | cons x r=>
     have:r=[]:=by rw [hq] at tl;simpa using tl
     subst this
     have e0:(zs.flatMap eN).take (zs.length)=zs.flatMap eN:=List.take_of_length_le (by omega)
     simp [List.flatMap_cons,eN,List.take_append_of_le_length,fl,hdl]
   ·rcases List.mem_cons.1 hx with hx | hx
    ·omega
    ·have:=hin x hx;omega
   ·have:=hk zs h3 (fun c o hc=>mv3.keep c o (hle2 c o hc) (by simp only [List.mem_singleton];intro e;rw [e,hb] at hc;cases hc)) txt
    unfold signL at this
    rw [if_pos hneg] at this
    exact this
  ·refine iteF (fun hh=>hneg (of_decide_eq_true hh)) ⟨⟨by decide,by omega,by omega⟩,letW ⟨strN zs,zrf (e:=5) (l:=⟨some ⟨b,1,none⟩,n+1-1,23⟩) (tb_ok.und _ ty74 rfl) (tb_ok.und _ ty5 rfl) (tb_ok.und _ ty9 rfl) (zdj1 k2 (by omega) ?_) (fun x hx=>by have:=hin x hx;omega),?_⟩⟩
   ·rw [List.append_assoc,List.drop_append_of_le_length (by omega),List.drop_of_length_le (by omega),List.nil_append,List.take_append_of_le_length (by omega),List.take_of_length_le (by omega)]
   ·have:=hk zs h2 hle2 txt
    unfold signL at this
    rw [if_neg hneg] at this
    exact this
theorem zqv1 {i:Int} {Q:ByteArray→Hp→Prop} (i0: -9223372036854775808≤i) (i1:i<9223372036854775808) (t:zre h) (hk:∀zs h',h≤h'→zff1 i.natAbs zs→Q (strN (signL i++zs)) h'):zoc Tryz.prog i Q h:=by
 unfold zoc
 refine zrt ?_
 unfold zmd
 exact zhd (zcm1 i0 i1 t hk)
end
end Lf

namespace Lf
open Go Go.Proofs
theorem zhz (xs:List Nat):(strN xs).data.toList=xs.map UInt8.ofNat:=by simp [strN]
theorem zbv (xs:List Nat):(strN xs).size=xs.length:=by show (strN xs).data.size=_;simp [strN]
theorem zfg1 (xs:List Nat):(strN xs).toList=xs.map UInt8.ofNat:=by rw [ByteArray.toList_eq];exact zhz xs
theorem zqk {xs:List Nat} {i x:Nat} (hx:xs[i]? =some x) (hl:x<256):((strN xs).data.toList.getD i 0).toNat=x:=by
 rw [zhz,List.getD_eq_getElem?_getD,List.getElem?_map,hx]
 show (UInt8.ofNat x).toNat=x
 rw [UInt8.toNat_ofNat']
 omega
theorem zld (xs:List Nat) (a b:Nat) (hb:b≤xs.length):(strN xs).extract a b=strN ((xs.take b).drop a):=by
 apply zug
 rw [ByteArray.data_extract]
 apply Array.ext'
 rw [Array.toList_extract]
 show (((strN xs).data.toList).drop a).take (b-a)=_
 rw [zhz,←List.drop_take,←List.map_take,←List.map_drop]
 simp [strN]
section
variable {h:Hp}
theorem znd1 {s:ByteArray} {c:Int} {K:Int→Hp→Prop} {i:Nat} (hf:(List.range s.size).find? (fun i=>s[i]! ==c.toNat.toUInt8)=some i) (hk:K (i:Int) h):SemE Tryz.prog (Extern.BytealgIndexByte.indexByte #[.string s,.int .u8 c]) (shInt .i64) K h:=by
 show semW Tryz.prog (match (List.range s.size).find? (fun i=>s[i]! ==c.toNat.toUInt8) with | some i=>pure (goInt i) | none=>pure (goInt (-1))) _ h
 rw [hf]
 exact ⟨_,rfl,hk⟩
theorem zne1 {xs:List Nat} {i:Nat} (hi:i<xs.length):(strN xs)[i]! =UInt8.ofNat xs[i]:=by
 have hs:i<(strN xs).size:=by rw [zbv];exact hi
 rw [getElem!_pos (strN xs) i hs]
 show (strN xs).data[i]=_
 simp [strN]
theorem zhx2 {A B:List Nat} {c:Nat} (hc:c<256) (hA:∀x∈A,x<256∧x≠c):(List.range (strN (A++c::B)).size).find? (fun i=>(strN (A++c::B))[i]! ==((c:Nat):Int).toNat.toUInt8)=some A.length:=by
 rw [List.find?_range_eq_some]
 have hl:A.length<(A++c::B).length:=by rw [List.length_append,List.length_cons];omega
 refine ⟨?_,?_,?_⟩
 ·rw [zne1 hl]
  simp
 ·rw [List.mem_range,zbv];exact hl
 ·intro j hj
  rw [zne1 (by omega),List.getElem_append_left hj,Int.toNat_natCast]
  obtain ⟨h1,h2⟩:=hA _ (List.getElem_mem hj)
  have:UInt8.ofNat A[j]≠c.toUInt8:=fun e=>h2 (by
   have:=congrArg UInt8.toNat e
   rw [UInt8.toNat_ofNat',show c.toUInt8.toNat=c%256 from UInt8.toNat_ofNat'] at this
   omega)
  simpa using this
theorem zgb2 {A B:List Nat} {c:Nat} {Q:ByteArray→ByteArray→Bool→Hp→Prop} (hc:c<256) (hA:∀x∈A,x<256∧x≠c) (hA0:A≠ []) (hlen:(A++c::B).length<1000000) (hq:Q (strN A) (strN B) true h):zmb Tryz.prog (strN (A++c::B)) (strN [c]) Q h:=by
 unfold zmb
 refine zhw ?_
 unfold zfs
 refine zhc ?_
 unfold zeu
 have hA1:1≤A.length:=by
  cases A with
  | nil=>exact absurd rfl hA0
  | cons _ _=>simp
 have hs:(strN [c]).size=1:=zbv _
 have hl:(A++c::B).length=A.length+1+B.length:=by rw [List.length_append,List.length_cons];omega
 refine letW (iteF (fun hh=> ?_) (iteT (by rw [hs];decide) ⟨⟨by decide,by rw [hs];decide⟩,zfi ?_⟩))
 ·rw [hs,Bool.or_eq_true] at hh
  rcases hh with hh | hh
  ·exact absurd hh (by decide)
  ·have:=congrArg List.length (eq_of_beq hh)
   rw [zfg1,zfg1,List.length_map,List.length_map,hl] at this
   simp at this
   omega
 unfold zdh
 rw [zqk (xs:=[c]) (i:=0) (x:=c) rfl hc]
 refine znd1 (zhx2 hc hA) ?_
 refine iteT (decide_eq_true (by show (A.length:Int)≥0;omega)) ?_
 rw [zbv,zbv,hl,List.length_singleton,Int.toNat_natCast]
 have e1:IntKind.wrap .i64 ((A.length:Int)+((1:Nat):Int))=((A.length+1:Nat):Int):=by rw [zae (by omega) (by omega)];omega
 rw [e1,Int.toNat_natCast]
 refine ⟨⟨by omega,by show (A.length:Int)≤((A.length+1+B.length:Nat):Int);omega⟩,⟨by omega,by omega⟩,?_⟩
 rw [zld _ _ _ (by omega),zld _ _ _ (by omega)]
 have t1:((A++c::B).take A.length).drop 0=A:=by simp
 have t2:((A++c::B).take (A.length+1+B.length)).drop (A.length+1)=B:=by
  rw [List.take_of_length_le (by omega),show A++c::B=(A++ [c])++B by simp,List.drop_append_of_le_length (by simp),List.drop_of_length_le (by simp)]
  rfl
 rw [t1,t2]
 exact hq
def numV (zs:List Nat):Nat:=zs.foldl (fun n z=>10*n+(z-48)) 0
theorem zxf (zs:List Nat) (z:Nat):numV (zs++ [z])=10*numV zs+(z-48):=by simp [numV]
theorem zai2 :∀(zs:List Nat) {n k:Nat},n<10^k→(∀z∈zs,48≤z∧z<58)→zs.foldl (fun n z=>10*n+(z-48)) n<10^(k+zs.length)
 | [],_,_,h,_=>h
 | z::zs,n,k,h,hz=>by
  have h2:=hz z (List.mem_cons_self ..)
  have:=zai2 zs (n:=10*n+(z-48)) (k:=k+1) (by rw [Nat.pow_succ];omega) fun x hx=>hz x (List.mem_cons_of_mem _ hx)
  rw [List.length_cons,show k+(zs.length+1)=k+1+zs.length by omega]
  exact this
theorem zfh1 {zs:List Nat} (hz:∀z∈zs,48≤z∧z<58):numV zs<10^zs.length:=by
 have:=zai2 zs (n:=0) (k:=0) (by decide) hz
 rw [Nat.zero_add] at this
 exact this
theorem zaj2 {sg:Nat} {zs:List Nat} {Q:Int→Leaf→Hp→Prop} (hsg:sg=43∨sg=45) (hz:∀z∈zs,48≤z∧z<58) (z1:1≤zs.length) (z2:zs.length≤17)
  (hk:∀h' e,h≤h'→e.v=.nilIface→Q (if sg=45 then -(numV zs:Int) else numV zs) e h'):zsm Tryz.prog (strN (sg::zs)) Q h:=by
 unfold zsm
 have fin:∀ {n:Int} {e:Leaf} {h':Hp},h≤h'→n=(if sg=45 then -(numV zs:Int) else numV zs)→e.v=.nilIface→((isIfV e.v)=true∧(if (!(zcd e.v))=true then
   CallT Tryz.prog zcp [(.string ⟨#[65,116,111,105]⟩),(.string (strN (sg::zs))),(.int .i64 (0:Int)),(.int .i64 (0:Int)),e.v] zah (fun r2 h2=>EncW zah r2.v fun e=>Q n e h2) h'
   else EncW zah .nilIface fun e=>Q n e h')):=fun {n e h'} hl hn he=>by
  rw [he]
  exact ⟨rfl,iteF (by decide) ⟨⟨.nilIface,rfl⟩,rfl,hn▸hk h' _ hl rfl⟩⟩
 refine zrs ?_
 unfold zmc
 have hs:(strN (sg::zs)).size=zs.length+1:=by rw [zbv];rfl
 have hg0:((strN (sg::zs)).data.toList.getD 0 0).toNat=sg:=zqk rfl (by omega)
 rw [hs,hg0]
 refine letW (letW (letW (letW (letW (iteT ?_ ?_)))))
 ·simp;omega
 refine JoinW1.intro (fun s k=>k=h∧s=strN zs) ⟨⟨by decide,by omega⟩,fun _=>⟨by decide,by omega⟩,letW (iteT (by rcases hsg with rfl | rfl<;>decide) ⟨⟨by decide,by omega⟩,?_⟩)⟩ ?_
 ·have e:(strN (sg::zs)).extract 1 (zs.length+1)=strN zs:=by
   rw [zld _ _ _ (by simp)]
   simp
  rw [e,zbv]
  exact iteF (fun hh=>by have:=of_decide_eq_true hh;omega) ⟨rfl,rfl⟩
 rintro _ h ⟨rfl,rfl⟩
 intro c b t hc hb
 rw [zbv] at hc ⊢
 generalize hh2:h.set b (.cells (zek (strN zs)++zbm [.int .u8 0] (c-zs.length)).toArray t (c,c+1))=h2
 have hle:h≤h2:=hh2▸ziv hb
 have cell:∀(i z:Nat),zs[i]? =some z→hcell h2 ⟨b,i,none⟩=some (.int .u8 (z:Int)):=fun i z hz'=>by
  subst hh2
  have hi:i<zs.length:=(List.getElem?_eq_some_iff.1 hz').1
  have e:(zek (strN zs))[i]? =some (.int .u8 (z:Int)):=by
   unfold zek
   rw [zhz,List.getElem?_map,List.getElem?_map,hz']
   have:=hz z (List.mem_of_getElem? hz')
   show some (Value.int .u8 (((UInt8.ofNat z).toNat:Nat):Int))=_
   rw [UInt8.toNat_ofNat']
   congr 2
   omega
  have hl:(zek (strN zs)).length=zs.length:=by unfold zek;rw [zhz];simp
  have e2:(zek (strN zs)++zbm [.int .u8 0] (c-zs.length))[i]? =some (.int .u8 (z:Int)):=by rw [List.getElem?_append_left (by omega)];exact e
  unfold hcell
  simp only [zec]
  simpa using e2
 clear hh2
 refine LoopW2.intro (fun n i k=>k=h2∧∃j:Nat,i=(j:Int)∧j≤zs.length∧n=(numV (zs.take j):Int)) (fun _ i _=>(zs.length-i).toNat) ⟨rfl,0,rfl,by omega,by simp [numV]⟩ ?_
 rintro n i k ⟨rfl,j,rfl,hj,rfl⟩
 have bound:∀ {j},j≤zs.length→numV (zs.take j)<100000000000000000:=fun {j} hj=>by
  have h1:=zfh1 (zs:=zs.take j) fun z hz'=>hz z (List.mem_of_mem_take hz')
  have h2:10^(zs.take j).length≤10^17:=Nat.pow_le_pow_right (by decide) (by rw [List.length_take];omega)
  omega
 by_cases hlt:j<zs.length
 ·have hg:zs[j]? =some zs[j]:=List.getElem?_eq_getElem hlt
  obtain ⟨g0,g1⟩:=hz _ (List.getElem_mem hlt)
  have hb1:=bound hj
  have hb2:=bound (j:=j+1) hlt
  have hsn:numV (zs.take (j+1))=10*numV (zs.take j)+(zs[j] - 48):=by rw [List.take_add_one,hg];exact zxf _ _
  refine iteT (decide_eq_true (by show (j:Int)<(zs.length:Nat);omega)) ⟨⟨by simp,by omega,by show (j:Int)<(zs.length:Nat);omega⟩,ld_at (sh:=shInt .u8) ((zs[j]:Nat):Int) ?_ ?_⟩
  ·have ea:sat (some ⟨b,0,none⟩) 1 (j:Int)=⟨b,j,none⟩:=by show Addr.add ⟨b,0,none⟩ _=_;rw [box_add];simp
   show LdIs k (sat (some ⟨b,0,none⟩) 1 (j:Int)) _
   rw [ea]
   exact zsd (cell j _ hg)
  ·have ex:IntKind.wrap .u8 (((zs[j]:Nat):Int)-48)=((zs[j] - 48:Nat):Int):=by rw [byte8];omega
   rw [ex]
   refine iteF (fun hh=>by have:=of_decide_eq_true hh;omega) ⟨⟨rfl,j+1,?_,by omega,?_⟩,?_⟩
   ·rw [zae (by omega) (by omega)];omega
   ·rw [zae (n:=(numV (zs.take j):Int)*10) (by omega) (by omega),zae (n:=((zs[j] - 48:Nat):Int)) (by omega) (by omega),zae (by omega) (by omega),hsn]
    omega
   ·rw [zae (by omega) (by omega)]
    omega
 ·have:j=zs.length:=by omega
  subst this
  refine iteF (fun hh=>hlt (by have:(zs.length:Int)<(zs.length:Nat):=of_decide_eq_true hh;omega)) ⟨⟨by decide,by omega⟩,?_⟩
  have hb1:=bound (Nat.le_refl _)
  rw [List.take_of_length_le (Nat.le_refl _)] at hb1 ⊢
  rcases hsg with rfl | rfl
  ·exact iteF (by decide) ⟨⟨.nilIface,rfl⟩,rfl,fin hle (by rw [if_neg (by decide)]) rfl⟩
  ·exact iteT (by decide) ⟨⟨.nilIface,rfl⟩,rfl,fin hle (by rw [zae (by omega) (by omega),if_pos rfl];omega) rfl⟩
end
end Lf

namespace Lf
open Ieee
theorem znf1 (s:Bool):sgn s=0∨sgn s=9223372036854775808:=by cases s<;>simp [sgn]
end Lf

namespace Lf
open Go Go.Proofs
section
variable {h:Hp}
theorem zgo1 {w:Nat} {Q:ByteArray→Hp→Prop} (hw64:w<18446744073709551616) (w0:0<w%9223372036854775808) (w1:w%9223372036854775808<9218868437227405312)
  (d0:(zbe (mS (w%9223372036854775808)) (eS (w%9223372036854775808))).1≠0) (d1:(zbe (mS (w%9223372036854775808)) (eS (w%9223372036854775808))).1<18446744073709551616)
  (t1:Pow10 h) (t2:zre h) (hz:∀zs,Shown (w%9223372036854775808) (negD w) zs→∀z∈zs,z<256) (hk:∀h' zs,h≤h'→Shown (w%9223372036854775808) (negD w) zs→Q (strN zs) h'):zdw Tryz.prog w (101:Int) (-1:Int) (64:Int) Q h:=by
 unfold zdw
 refine zfy ?_
 unfold zdx
 refine iteF (by decide) (iteT (by decide) ⟨by decide,fun b t hb=> ?_⟩)
 have hle:=ziv (o:=.cells (zbm [Value.int .u8 (0:Int)] (max2I (IntKind.wrap .i64 ((-1:Int)+4)) 24).toNat).toArray t (0,0)) hb
 have own:ON h (h.set b (.cells (zbm [Value.int .u8 (0:Int)] (max2I (IntKind.wrap .i64 ((-1:Int)+4)) 24).toNat).toArray t (0,0))) ⟨some ⟨b,0,none⟩,(0:Int).toNat,(max2I (IntKind.wrap .i64 ((-1:Int)+4)) 24).toNat⟩ []:=
  ⟨rfl,Nat.zero_le _,.inr ⟨b,_,t,rfl,zec,(by show (zbm [Value.int .u8 (0:Int)] (max2I (IntKind.wrap .i64 ((-1:Int)+4)) 24).toNat).length=(max2I (IntKind.wrap .i64 ((-1:Int)+4)) 24).toNat*1;decide),rfl,hb⟩⟩
 refine zil (zhj2 hle own rfl (by decide) hw64 w0 w1 d0 d1 t1 t2 fun r h' zs hl hs o=> ?_)
 exact ⟨strN zs,zrf (e:=5) (tb_ok.und _ ty74 rfl) (tb_ok.und _ ty5 rfl) (tb_ok.und _ ty9 rfl) (Own.rw (by simpa using o) zyj) (hz zs hs),hk h' zs hl hs⟩
def headL (neg:Bool) (a v:Nat):List Nat:=match digL a v with
 | []=> []
 | c::ds=>(if neg then [45] else [])++ [c]++(if ds=[] then [] else 46::ds)
theorem zak2 {neg:Bool} {a v:Nat} {e:Int} (ha:0<a):sciT neg a v e=headL neg a v++101::(if e<0 then 45 else 43)::expL e.natAbs:=by
 unfold sciT headL
 have hl:=zmm a v
 cases hq:digL a v with
 | nil=>rw [hq] at hl;simp at hl;omega
 | cons c ds=>
  show (if neg then [45] else [])++ [c]++(if ds=[] then [] else 46::ds)++ [101,if e<0 then 45 else 43]++expL e.natAbs=_
  simp
theorem zea2 {neg:Bool} {a v:Nat}:∀x∈headL neg a v,x<58:=by
 unfold headL
 have hd:=zbx1 a v
 cases hq:digL a v with
 | nil=>intro x hx;cases hx
 | cons c ds=>
  rw [hq] at hd
  intro x hx
  have hx:x∈(if neg then [45] else [])++ [c]++(if ds=[] then [] else 46::ds):=hx
  rw [List.mem_append,List.mem_append] at hx
  rcases hx with (hx | hx) | hx
  ·cases neg<;>simp at hx;omega
  ·have:=hd c (List.mem_cons_self ..);simp at hx;omega
  ·split at hx
   ·cases hx
   ·rcases List.mem_cons.1 hx with hx | hx
    ·omega
    ·have:=hd x (List.mem_cons_of_mem _ hx);omega
theorem zal2 {neg:Bool} {a v:Nat} (ha:0<a):headL neg a v≠ []∧(headL neg a v).length≤a+2:=by
 unfold headL
 have hl:=zmm a v
 cases hq:digL a v with
 | nil=>rw [hq] at hl;simp at hl;omega
 | cons c ds=>
  rw [hq,List.length_cons] at hl
  refine ⟨by simp,?_⟩
  show ((if neg then [45] else [])++ [c]++(if ds=[] then [] else 46::ds)).length≤_
  rw [List.length_append,List.length_append]
  have:(if neg then [45] else []:List Nat).length≤1:=by split<;>simp
  have:(if ds=[] then [] else 46::ds).length≤ds.length+1:=by split<;>simp
  simp only [List.length_singleton]
  omega
theorem zhy2 {n:Nat} (hn:n<1000):(∀x∈expL n,48≤x∧x<58)∧1≤(expL n).length∧(expL n).length≤3∧numV (expL n)=n:=by
 unfold expL
 split
 ·exact ⟨fun x hx=>by simp at hx;omega,by simp,by simp,by simp [numV]⟩
 ·split
  ·exact ⟨fun x hx=>by simp at hx;omega,by simp,by simp,by simp [numV];omega⟩
  ·exact ⟨fun x hx=>by simp at hx;omega,by simp,by simp,by simp [numV];omega⟩
def zkm1 (r:Nat) (neg:Bool) (out:List Nat):Prop:=∃(n k v:Nat) (zs:List Nat),(zbe (mS r) (eS r)).1=v*10^k∧v%10≠0∧k<n∧n≤20∧10^(n-1)≤(zbe (mS r) (eS r)).1∧(zbe (mS r) (eS r)).1<10^n∧
 zff1 ((n:Int)+(zbe (mS r) (eS r)).2-1).natAbs zs∧out=headL neg (n-k) v++101::(signL ((n:Int)+(zbe (mS r) (eS r)).2-1)++zs)
theorem zng1 {m:Nat} {e:Int} (h0: -1137≤e) (h1:e≤974): -400≤(zbe m e).2∧(zbe m e).2≤400:=by
 obtain ⟨p0,p1, -, -⟩:=p_in (m:=m) h0 h1
 unfold zbe
 split
 ·show -400≤ -(pP _ _-1)∧ -(pP _ _-1)≤400;omega
 ·split
  ·show -400≤ -(pP _ _)∧ -(pP _ _)≤400;omega
  ·show -400≤ -(pP _ _)∧ -(pP _ _)≤400;omega
theorem zeb2 {w:Nat} (w1:w%9223372036854775808<9218868437227405312):rzD w≤9218868437227405311∧ -9218868437227405311≤rzD w:=by
 unfold rzD
 split<;>omega
theorem zqw1 {x y:Int} (hxy:x≤y):compare x y≠ .gt:=fun e=>by
 rw [Int.compare_eq_gt] at e
 omega
theorem zam2 {x y:Int} (hxy:y≤x):compare x y≠ .lt:=fun e=>by
 rw [Int.compare_eq_lt] at e
 omega
theorem zec2 {b:Int} {w:Nat} {Q:ByteArray→Hp→Prop} (hw:zht1 b=w) (w0:0<w%9223372036854775808) (w1:w%9223372036854775808<9218868437227405312)
  (d0:(zbe (mS (w%9223372036854775808)) (eS (w%9223372036854775808))).1≠0) (d1:(zbe (mS (w%9223372036854775808)) (eS (w%9223372036854775808))).1<18446744073709551616)
  (t1:Pow10 h) (t2:zre h) (hk:∀h' out,h≤h'→zkm1 (w%9223372036854775808) (negD w) out→Q (strN out) h'):znl Tryz.prog b Q h:=by
 have hw64:w<18446744073709551616:=by rw [←hw];exact zzk1
 obtain ⟨-, -,e0,e1, -⟩:=mS_in w0 w1
 have hex:=zng1 (m:=mS (w%9223372036854775808)) e0 e1
 have nn:¬zlv w=true:=zor (by omega)
 unfold znl
 refine zti (zkh1 ?_)
 rw [hw]
 refine zhy (sh:=zad) (v:=isNaN w) rfl (iteF (by rw [zkd1 hw64];exact nn) ?_)
 have bound:=zeb2 w1
 refine zhy (sh:=zad) (v:=f64.format.order w 9218868437227405311==some .gt) rfl (iteF (fun hh=> ?_) ?_)
 ·have o:=zvk (a:=w) (b:=9218868437227405311) hw64 (by omega) (by omega) (by omega)
  have hh:(dbl.order w 9218868437227405311==some .gt)=true:=hh
  rw [o] at hh
  have hh:=Option.some.inj (eq_of_beq hh)
  have e0:rzD 9218868437227405311=9218868437227405311:=by unfold rzD negD;rw [decide_eq_false (by omega)];decide
  exact zqw1 (by omega) hh
 refine zhy (sh:=zad) (v:=f64.format.order w 18442240474082181119==some .lt) rfl (iteF (fun hh=> ?_) ?_)
 ·have o:=zvk (a:=w) (b:=18442240474082181119) hw64 (by omega) (by omega) (by omega)
  have hh:(dbl.order w 18442240474082181119==some .lt)=true:=hh
  rw [o] at hh
  have hh:=Option.some.inj (eq_of_beq hh)
  have e0:rzD 18442240474082181119= -9218868437227405311:=by unfold rzD negD;rw [decide_eq_true (by omega)];decide
  exact zam2 (by omega) hh
 refine zlc (zgo1 hw64 w0 w1 d0 d1 t1 t2 ?_ fun h1 zs l1 hs=> ?_)
 ·rintro zs ⟨n,k,v,a1,a2,a3,a4,a5,a6,rfl⟩
  exact zhi2 (by omega)
 obtain ⟨n,k,v,a1,a2,a3,a4,a5,a6,rfl⟩:=hs
 have ha:0<n-k:=by omega
 rw [zak2 ha]
 obtain ⟨hl0,hl1⟩:=zal2 (neg:=negD w) (v:=v) ha
 have hx:=zhy2 (n:=((n:Int)+(zbe (mS (w%9223372036854775808)) (eS (w%9223372036854775808))).2-1).natAbs) (by omega)
 have fin:=fun zs (hz:zff1 ((n:Int)+(zbe (mS (w%9223372036854775808)) (eS (w%9223372036854775808))).2-1).natAbs zs)=>(⟨n,k,v,zs,a1,a2,a3,a4,a5,a6,hz,rfl⟩:zkm1 (w%9223372036854775808) (negD w) _)
 have hin:=zea2 (neg:=negD w) (a:=n-k) (v:=v)
 generalize headL (negD w) (n-k) v=A at*
 generalize hE:(n:Int)+(zbe (mS (w%9223372036854775808)) (eS (w%9223372036854775808))).2-1=E at*
 refine zhv (zgb2 (c:=101) (by decide) (fun x hx'=>by have:=hin x hx';omega) hl0 (by rw [List.length_append,List.length_cons,List.length_cons];omega) ?_)
 refine zue (zaj2 (by split<;>simp) hx.1 hx.2.1 (by omega) fun h2 er l2 _=> ?_)
 have eE:(if (if E<0 then 45 else 43)=45 then -(numV (expL E.natAbs):Int) else numV (expL E.natAbs))=E:=by
  rw [hx.2.2.2]
  by_cases c:E<0
  ·rw [if_pos c,if_pos rfl];omega
  ·rw [if_neg c,if_neg (by decide)];omega
 rw [eE,zbv]
 refine ⟨by omega,znz (zqv1 (by omega) (by omega) (zbd (Hp.le_trans l1 l2) t2) fun zs h3 l3 hz=> ?_)⟩
 have hzl:zs.length≤20:=by
  obtain ⟨q,e1,e2,e3,e4⟩:=hz
  rw [e1,zmm]
  rcases e4 with e4 | e4
  ·omega
  ·refine Classical.byContradiction fun hq=> ?_
   have:10^20≤10^(q-1):=Nat.pow_le_pow_right (by decide) (by omega)
   omega
 have hres:=hk h3 _ (Hp.le_trans l1 (Hp.le_trans l2 l3)) (fin zs hz)
 refine ⟨?_,?_⟩
 ·rw [zbv]
  show (List.append (strN A).data.toList [101]).toArray.size+_≤_
  rw [zhz,List.length_append]
  simp
  have:(signL E).length≤1:=by unfold signL;split<;>simp
  omega
 ·have:strN (A++101::(signL E++zs))=⟨⟨List.append (List.append (strN A).data.toList [101]) (strN (signL E++zs)).data.toList⟩⟩:=by
   rw [zhz,zhz]
   simp [strN]
  rw [this] at hres
  exact hres
end
end Lf

namespace Lf
def lenN (u:Nat):Nat:=if u<10 then 1 else lenN (u / 10)+1
theorem zmn (u:Nat):1≤lenN u:=by unfold lenN;split<;>omega
theorem zxg (u:Nat):u<10^lenN u∧(lenN u=1∨10^(lenN u-1)≤u):=by
 induction u using Nat.strongRecOn with
 | _ u ih=>
  unfold lenN
  split
  ·rename_i h
   exact ⟨h,.inl rfl⟩
  ·rename_i h
   obtain ⟨i1,i2⟩:=ih (u / 10) (by omega)
   have p:=zmn (u / 10)
   obtain ⟨k,hk⟩:∃k,lenN (u / 10)=k+1:=⟨lenN (u / 10)-1,by omega⟩
   rw [hk] at i1 i2 ⊢
   refine ⟨by rw [Nat.pow_succ];omega,.inr ?_⟩
   show 10^(k+1)≤u
   rw [Nat.pow_succ]
   rcases i2 with i2 | i2
   ·have:k=0:=by omega
    subst this
    omega
   ·have i2:10^k≤u / 10:=i2
    omega
theorem zan2 {u n:Nat} (h1:u<10^n) (n1:1≤n) (h2:n=1∨10^(n-1)≤u):n=lenN u:=by
 obtain ⟨s1,s2⟩:=zxg u
 have p:=zmn u
 have lt:∀ {a b:Nat},10^a<10^b→a<b:=fun h=>(Nat.pow_lt_pow_iff_right (by decide)).1 h
 have a:n≤lenN u:=by
  rcases h2 with h2 | h2
  ·omega
  ·have:=lt (Nat.lt_of_le_of_lt h2 s1);omega
 have b:lenN u≤n:=by
  rcases s2 with s2 | s2
  ·omega
  ·have:=lt (Nat.lt_of_le_of_lt s2 h1);omega
 omega
def decL (u:Nat):List Nat:=digL (lenN u) u
theorem zav1 {u:Nat} {zs:List Nat} (h:zff1 u zs):zs=decL u:=by
 obtain ⟨n,rfl,h1,h2,h3⟩:=h
 unfold decL
 rw [←zan2 h1 h2 h3]
def numL (neg:Bool) (v:Nat) (s:Int):List Nat:=headL neg (lenN v) v++101::(signL ((lenN v:Int)+s-1)++decL ((lenN v:Int)+s-1).natAbs)
def TextF (r:Nat) (neg:Bool) (out:List Nat):Prop:=∃v s,v%10≠0∧ -3000≤s∧v*unitW 0 s=valS r∧out=numL neg v s
theorem zao2 {r:Nat} {neg:Bool} {x y:List Nat} (hx:TextF r neg x) (hy:TextF r neg y):x=y:=by
 obtain ⟨v,s,a1,a2,a3,rfl⟩:=hx
 obtain ⟨u,t,b1,b2,b3,rfl⟩:=hy
 obtain ⟨rfl,rfl⟩:=zzz1 a2 b2 a1 b1 (a3.trans b3.symm)
 rfl
theorem znh1 {r:Nat} {neg:Bool} {out:List Nat} (h1:0<r) (h2:r<9218868437227405312) (hp:zkm1 r neg out):TextF r neg out:=by
 obtain ⟨n,k,v,zs,a1,a2,a3,a4,a5,a6,a7,a8⟩:=hp
 obtain ⟨m0,m1,e0,e1, -⟩:=mS_in h1 h2
 obtain ⟨x0,x1⟩:=zng1 (m:=mS r) e0 e1
 rw [a1] at a5 a6
 have hk:=Nat.pow_pos (n:=k) (show 0<10 by decide)
 have hl:n-k=lenN v:=by
  refine zan2 ?_ (by omega) (.inr ?_)
  ·have:v*10^k<10^(n-k)*10^k:=by rw [←Nat.pow_add,show n-k+k=n by omega];exact a6
   exact Nat.lt_of_mul_lt_mul_right this
  ·have:10^(n-k-1)*10^k≤v*10^k:=by rw [←Nat.pow_add,show n-k-1+k=n-1 by omega];exact a5
   exact Nat.le_of_mul_le_mul_right this hk
 refine ⟨v,(zbe (mS r) (eS r)).2+k,a2,by omega,?_,?_⟩
 ·unfold valS
  rw [a1,Nat.mul_assoc,zhx (by omega)]
 ·unfold numL
  rw [←hl,show ((n-k:Nat):Int)+((zbe (mS r) (eS r)).2+(k:Int))-1=(n:Int)+(zbe (mS r) (eS r)).2-1 by omega,a8,zav1 a7]
end Lf

namespace Lf
section
variable {r:Nat}
theorem zhz2 (h1:0<r) (h2:r<9218868437227405312):0<loF r:=by
 obtain ⟨hz,hm,he,z0,z1,z2,hM⟩:=zrg h1 h2
 exact Nat.mul_pos (by unfold lowF;split<;>omega) (zmy1 r)
theorem zby1 (h1:0<r) (h2:r<9218868437227405312):(zbe (mS r) (eS r)).1≠0∧(zbe (mS r) (eS r)).1<144115188075855872:=by
 obtain ⟨w1,w2, -⟩:=zmz1 h1 h2
 obtain ⟨v1,v2⟩:=v_in h1 h2
 obtain ⟨u1,u2, -⟩:=zjl2 h1 h2
 obtain ⟨p0,p1⟩:=zqs1 h1 h2
 obtain ⟨x1,x2, -⟩:=zty1 (zfd1 h1 h2)
 have hl:=zhz2 h1 h2
 have e:=zhx (a:=0) (b:= -pF r) (n:=17) (by omega)
 rw [show -pF r+((17:Nat):Int)=17-pF r by omega] at e
 rw [←e,show (10:Nat)^17=100000000000000000 by decide] at u2
 have hs: -pF r≤(zbe (mS r) (eS r)).2:=by
  unfold zbe
  split
  ·show -pF r≤ -(pF r-1);omega
  ·split
   ·exact Int.le_refl _
   ·exact Int.le_refl _
 have t:=Nat.mul_le_mul_left (zbe (mS r) (eS r)).1 (zfe1 (by omega) hs)
 have hv:valS r=(zbe (mS r) (eS r)).1*unitW 0 (zbe (mS r) (eS r)).2:=rfl
 have hT:=zby 0 (-pF r)
 constructor
 ·intro hz
  rw [hz,Nat.zero_mul] at hv
  omega
 ·have hlt:(zbe (mS r) (eS r)).1*unitW 0 (-pF r)<144115188075855872*unitW 0 (-pF r):=by omega
  exact Nat.lt_of_mul_lt_mul_right hlt
end
def zka2 (X low high:Nat):Prop:=1≤low∧low≤high∧high≤9218868437227405311∧∀b,0<b→b<9218868437227405312→inF b X=true→low≤b∧b≤high
end Lf

namespace Lf
theorem zxh {ds:List Nat} {i z:Nat} (h:ds[i]? =some z):numV (ds.take (i+1))=10*numV (ds.take i)+(z-48):=by
 rw [List.take_add_one,h];exact zxf _ _
theorem zkn1 :∀(b:List Nat) (n:Nat),b.foldl (fun n z=>10*n+(z-48)) n=n*10^b.length+numV b
 | [],n=>by simp [numV]
 | z::b,n=>by
  have e1:=zkn1 b (10*n+(z-48))
  have e2:=zkn1 b (10*0+(z-48))
  have e3:numV (z::b)=b.foldl (fun n z=>10*n+(z-48)) (10*0+(z-48)):=rfl
  rw [e3,e2,List.foldl_cons,e1,List.length_cons,Nat.pow_succ]
  grind
theorem zaw1 (a b:List Nat):numV (a++b)=numV a*10^b.length+numV b:=by
 have:=zkn1 b (numV a)
 rw [←this]
 unfold numV
 rw [List.foldl_append]
abbrev Digs (ds:List Nat):Prop:=∀z∈ds,48≤z∧z<58
theorem zgc2 {x y:List Nat} {i:Nat} (hx:Digs x) (hy:Digs y) (ix:i≤x.length) (iy:i≤y.length) (h:numV (x.take i)<numV (y.take i)):numV x*10^y.length<numV y*10^x.length:=by
 have ex:=zaw1 (x.take i) (x.drop i)
 have ey:=zaw1 (y.take i) (y.drop i)
 rw [List.take_append_drop,List.length_drop] at ex ey
 have bx:=zfh1 (zs:=x.drop i) fun z hz=>hx z (List.mem_of_mem_drop hz)
 rw [List.length_drop] at bx
 obtain ⟨a,ea⟩:∃a,x.length=i+a:=⟨x.length-i,by omega⟩
 obtain ⟨b,eb⟩:∃b,y.length=i+b:=⟨y.length-i,by omega⟩
 rw [ea,show i+a-i=a by omega] at ex bx
 rw [eb,show i+b-i=b by omega] at ey
 rw [ea,eb,Nat.pow_add,Nat.pow_add]
 have h1:numV x<(numV (x.take i)+1)*10^a:=by rw [ex,Nat.add_mul];omega
 have h2:(numV (x.take i)+1)*10^b≤numV y:=by
  rw [ey]
  exact Nat.le_trans (Nat.mul_le_mul_right _ h) (Nat.le_add_right _ _)
 have pb:=Nat.pow_pos (n:=b) (show 0<10 by decide)
 have pa:=Nat.pow_pos (n:=a) (show 0<10 by decide)
 have pi:=Nat.pow_pos (n:=i) (show 0<10 by decide)
 have h3:=Nat.mul_lt_mul_of_pos_right h1 (Nat.mul_pos pi pb)
 have h4:=Nat.mul_le_mul_right (10^i*10^a) h2
 generalize (10:Nat)^a=A at*
 generalize (10:Nat)^b=B at*
 generalize (10:Nat)^i=I at*
 have e:(numV (x.take i)+1)*A*(I*B)=(numV (x.take i)+1)*B*(I*A):=by ac_rfl
 rw [e] at h3
 exact Nat.lt_of_lt_of_le h3 h4
theorem zap2 {x:List Nat} {c:Nat} (h:x[0]? =some c) (hc:49≤c):10^(x.length-1)≤numV x∧(c-48)*10^(x.length-1)≤numV x:=by
 cases x with
 | nil=>simp at h
 | cons d x=>
  obtain rfl:d=c:=Option.some.inj h
  have e:=zaw1 [d] x
  rw [show [d]++x=d::x from rfl] at e
  rw [e,List.length_cons,Nat.add_sub_cancel]
  have:numV [d]=d-48:=by simp [numV]
  rw [this]
  have:=Nat.mul_le_mul_right (10^x.length) (show 1≤d-48 by omega)
  exact ⟨by omega,by omega⟩
def fiveL (k:Nat):List Nat:=if k=0 then [] else decL (5^k)
def newD (k:Nat):Nat:=if k=0 then 0 else lenN (2^k)
theorem zni1 :∀(n u:Nat),u<10^n→numV (digL n u)=u
 | 0,u,h=>by simp at h;simp [digL,numV,h]
 | n+1,u,h=>by
  rw [digL,zxf,zni1 n (u / 10) (by rw [Nat.pow_succ] at h;omega)]
  omega
theorem zdk1 (u:Nat):numV (decL u)=u:=zni1 _ _ (zxg u).1
theorem zse (u:Nat):(decL u).length=lenN u:=zmm _ _
theorem zxi (u:Nat):Digs (decL u):=fun _ h=>zbx1 _ _ _ h
theorem ztz1 :∀k,k<61→1≤k→lenN (5^k)+lenN (2^k)=k+1∧5^k%10=5:=by decide+kernel
theorem zia2 :∀k,k<61→1≤k→2^k<10^lenN (2^k)∧10^(lenN (2^k)-1)≤2^k:=by decide+kernel
def LessL (lt:Bool) (x:List Nat) (k:Nat):Prop:=if lt then numV x*10^(fiveL k).length<5^k*10^x.length else 5^k*10^x.length≤numV x*10^(fiveL k).length
theorem zqx1 {x:List Nat} {k c D:Nat} {lt:Bool} (hx:Digs x) (h0:x[0]? =some c) (hc:49≤c) (k1:1≤k) (k2:k<61) (hl:LessL lt x k) (hD:D=if lt then newD k-1 else newD k):
  numV x*2^k / 10^x.length<10^D∧(1≤D→10^(D-1)≤numV x*2^k / 10^x.length)∧(D=0→(c-48)*2^k<10):=by
 obtain ⟨e5, -⟩:=ztz1 k k2 k1
 obtain ⟨u2,l2⟩:=zia2 k k2 k1
 have hn:=zfh1 hx
 obtain ⟨n1,n2⟩:=zap2 h0 hc
 have hxl:1≤x.length:=by have:=(List.getElem?_eq_some_iff.1 h0).1;omega
 unfold LessL fiveL at hl
 unfold newD at hD
 rw [if_neg (show ¬k=0 by omega)] at hl hD
 rw [zse] at hl
 have hp:=zmn (2^k)
 have pn:=Nat.pow_pos (n:=x.length) (show 0<10 by decide)
 obtain ⟨d,hd⟩:∃d,lenN (2^k)=d+1:=⟨lenN (2^k)-1,by omega⟩
 have ek:k=lenN (5^k)+d:=by omega
 rw [hd] at u2 l2 hD
 rw [Nat.add_sub_cancel] at l2
 have e10:(10:Nat)^k=10^lenN (5^k)*10^d:=by
  conv=>lhs;rw [ek]
  rw [Nat.pow_add]
 have e52:(5:Nat)^k*2^k=10^k:=by rw [←Nat.mul_pow]
 have pl:=Nat.pow_pos (n:=lenN (5^k)) (show 0<10 by decide)
 have p2:=Nat.two_pow_pos k
 have pd:=Nat.pow_pos (n:=d) (show 0<10 by decide)
 cases lt with
 | true=>
  rw [if_pos rfl] at hl hD
  rw [Nat.add_sub_cancel] at hD
  subst hD
  have h1:numV x*2^k<10^D*10^x.length:=by
   have:=Nat.mul_lt_mul_of_pos_right hl p2
   rw [show 5^k*10^x.length*2^k=(5^k*2^k)*10^x.length by ac_rfl,e52,e10] at this
   refine Nat.lt_of_mul_lt_mul_left (a:=10^lenN (5^k)) ?_
   rw [show 10^lenN (5^k)*(numV x*2^k)=numV x*10^lenN (5^k)*2^k by ac_rfl,←Nat.mul_assoc]
   exact this
  refine ⟨(Nat.div_lt_iff_lt_mul pn).2 h1,fun hD=> ?_,fun hD=> ?_⟩
  ·rw [Nat.le_div_iff_mul_le pn,←Nat.pow_add]
   have:=Nat.mul_le_mul n1 l2
   rw [←Nat.pow_add,show x.length-1+D=D-1+x.length by omega] at this
   exact this
  ·rw [hD,Nat.pow_zero,Nat.one_mul] at h1
   have:=Nat.mul_le_mul_right (2^k) n2
   obtain ⟨n,hn⟩:∃n,x.length=n+1:=⟨x.length-1,by omega⟩
   rw [hn,Nat.add_sub_cancel] at this
   rw [hn,Nat.pow_succ] at h1
   refine Nat.lt_of_mul_lt_mul_left (a:=10^n) ?_
   rw [show 10^n*((c-48)*2^k)=(c-48)*10^n*2^k by ac_rfl]
   omega
 | false=>
  rw [if_neg (by decide)] at hl hD
  subst hD
  refine ⟨?_,fun _=> ?_,fun hD=>by omega⟩
  ·rw [Nat.div_lt_iff_lt_mul pn,Nat.mul_comm]
   exact Nat.mul_lt_mul_of_lt_of_le u2 (Nat.le_of_lt hn) pn
  ·rw [Nat.add_sub_cancel,Nat.le_div_iff_mul_le pn]
   have:=Nat.mul_le_mul_right (2^k) hl
   rw [show 5^k*10^x.length*2^k=(5^k*2^k)*10^x.length by ac_rfl,e52,e10] at this
   refine Nat.le_of_mul_le_mul_left (c:=10^lenN (5^k)) ?_ pl
   rw [show 10^lenN (5^k)*(numV x*2^k)=numV x*10^lenN (5^k)*2^k by ac_rfl,←Nat.mul_assoc]
   exact this
def twosN :Nat→Nat→Nat
 | 0,_=>0
 | f+1,n=>if n%2=0 then twosN f (n / 2)+1 else 0
theorem znj1 :∀f n,2^twosN f n ∣ n
 | 0,n=>by simp [twosN]
 | f+1,n=>by
  rw [twosN]
  split
  ·rename_i h
   obtain ⟨c,hc⟩:=znj1 f (n / 2)
   exact ⟨c,by rw [Nat.pow_succ,Nat.mul_right_comm,←hc];omega⟩
  ·simp
theorem zua1 :∀f n j,j≤f→2^j ∣ n→j≤twosN f n
 | 0,_,j,h,_=>by omega
 | f+1,n,0,_,_=>Nat.zero_le _
 | f+1,n,j+1,h,⟨c,hc⟩=>by
  rw [Nat.pow_succ,Nat.mul_right_comm] at hc
  rw [twosN,if_pos (by omega)]
  have:=zua1 f (n / 2) j (by omega) ⟨c,by omega⟩
  omega
def restN (n:Nat):Nat:=if n=0 then 0 else 100-twosN 64 n
theorem zaq2 {n k:Nat} (hk:k≤60) (hn:0<n):restN (n%2^k*10)<restN n:=by
 have t64:∀f n,twosN f n≤f:=fun f=>by
  induction f with
  | zero=>intro n;exact Nat.le_refl _
  | succ f ih=>intro n;rw [twosN];have:=ih (n / 2);split<;>omega
 have h64:=t64 64 n
 unfold restN
 rw [if_neg (by omega:¬n=0)]
 split
 ·omega
 ·rename_i h
  have hne:n%2^k≠0:=fun e=>h (by rw [e])
  have hd:=znj1 64 n
  have hlt:twosN 64 n<k:=Nat.lt_of_not_le fun hge=>hne (Nat.mod_eq_zero_of_dvd (Nat.dvd_trans (Nat.pow_dvd_pow 2 hge) hd))
  have h1:2^twosN 64 n ∣ n%2^k:=(Nat.dvd_mod_iff (Nat.pow_dvd_pow 2 (Nat.le_of_lt hlt))).2 hd
  have h2:2^(twosN 64 n+1) ∣ n%2^k*10:=by
   rw [Nat.pow_succ]
   exact Nat.mul_dvd_mul h1 (by decide)
  have:=zua1 64 _ _ (by omega) h2
  omega
theorem zar2 {n d T k N r:Nat} (h:(10*T+d)*2^k+n=N / 10^r):T*2^k+(n+d*2^k) / 10=N / 10^(r+1):=by
 rw [Nat.pow_succ,←Nat.div_div_eq_div_mul,←h,Nat.add_mul,Nat.mul_assoc]
 generalize T*2^k=a
 generalize d*2^k=b
 omega
end Lf



namespace Lf
open Go Go.Proofs
theorem effF {α:Type} {b:Bool} {A:(α→Hp→Prop)→Hp→Prop} {K:α→Hp→Prop} {h:Hp} (hb:b=false) (x:α) (hk:K x h):EffC (some b) A K h:=⟨fun e=>(by rw [hb] at e;cases e),fun _=>⟨x,hk⟩⟩
def manL (c:Nat) (ds:List Nat):List Nat:=c::(if ds=[] then [] else 46::ds)
def fltL (neg:Bool) (c:Nat) (ds:List Nat) (eneg:Bool) (xs:List Nat):List Nat:=(if neg then [45] else [])++(manL c ds++101::((if eneg then [45] else [])++xs))
def sgnN (b:Bool):Nat:=if b then 1 else 0
theorem zph (b:Bool):(if b then [45] else []:List Nat).length=sgnN b:=by cases b<;>rfl
theorem zdl1 (c:Nat) (ds:List Nat):(manL c ds).length=if ds=[] then 1 else ds.length+2:=by
 unfold manL
 split<;>simp
section
variable {neg eneg:Bool} {c:Nat} {ds xs:List Nat}
theorem zdm1 :(fltL neg c ds eneg xs).length=sgnN neg+(manL c ds).length+1+sgnN eneg+xs.length:=by
 unfold fltL
 rw [List.length_append,List.length_append,List.length_cons,List.length_append,zph,zph]
 omega
theorem zed2 {j:Nat} (hj:j<(manL c ds).length):(fltL neg c ds eneg xs)[sgnN neg+j]? =(manL c ds)[j]?:=by
 unfold fltL
 rw [List.getElem?_append_right (by rw [zph];omega),zph,show sgnN neg+j-sgnN neg=j by omega,List.getElem?_append_left hj]
theorem zjo2 :(fltL neg c ds eneg xs)[sgnN neg+(manL c ds).length]? =some 101:=by
 unfold fltL
 rw [List.getElem?_append_right (by rw [zph];omega),zph,show sgnN neg+(manL c ds).length-sgnN neg=(manL c ds).length by omega,List.getElem?_append_right (Nat.le_refl _),Nat.sub_self]
 rfl
theorem zjp2 {j:Nat} (hj:j<xs.length):(fltL neg c ds eneg xs)[sgnN neg+(manL c ds).length+1+sgnN eneg+j]? =xs[j]?:=by
 unfold fltL
 rw [List.getElem?_append_right (by rw [zph];omega),zph,List.getElem?_append_right (by omega),show sgnN neg+(manL c ds).length+1+sgnN eneg+j-sgnN neg-(manL c ds).length=sgnN eneg+j+1 by omega,List.getElem?_cons_succ,
  List.getElem?_append_right (by rw [zph];omega),zph,show sgnN eneg+j-sgnN eneg=j by omega]
def dgN (j:Nat):Nat:=if j≤1 then j else j-1
theorem znk1 {zs:List Nat} (hz:∀z∈zs,48≤z∧z<58) (hl:zs.length≤18) (k:Nat):numV (zs.take k)<1000000000000000000:=by
 have h1:=zfh1 (zs:=zs.take k) fun z hz'=>hz z (List.mem_of_mem_take hz')
 have h2:10^(zs.take k).length≤10^18:=Nat.pow_le_pow_right (by decide) (by rw [List.length_take];omega)
 omega
theorem zib2 {j:Nat} (hj:j<(manL c ds).length):(j=1∧ds≠ []∧(manL c ds)[j]? =some 46)∨(j≠1∧∃z,(manL c ds)[j]? =some z∧(c::ds)[dgN j]? =some z):=by
 rw [zdl1] at hj
 unfold manL dgN
 rcases (show j=0∨j=1∨2≤j by omega) with rfl | rfl | h2
 ·exact .inr ⟨by decide,c,rfl,rfl⟩
 ·left
  by_cases hd:ds=[]
  ·rw [if_pos hd] at hj;omega
  ·exact ⟨rfl,hd,by rw [if_neg hd];rfl⟩
 ·right
  by_cases hd:ds=[]
  ·rw [if_pos hd] at hj;omega
  ·rw [if_neg hd] at hj
   obtain ⟨i,rfl⟩:∃i,j=i+2:=⟨j-2,by omega⟩
   have hi:i<ds.length:=by omega
   refine ⟨by omega,ds[i],?_,?_⟩
   ·rw [if_neg hd,List.getElem?_cons_succ,List.getElem?_cons_succ,List.getElem?_eq_getElem hi]
   ·rw [if_neg (by omega),show i+2-1=i+1 by omega,List.getElem?_cons_succ,List.getElem?_eq_getElem hi]
variable {h:Hp}
theorem zsf {x:Int} {Q:Int→Hp→Prop} (hq:Q (bitsI .or .u8 x 32) h):zgw Tryz.prog x Q h:=by
 unfold zgw
 exact hq
theorem znl1 {Q:Int→Int→Bool→Bool→Bool→Int→Bool→Hp→Prop} (hc:49≤c∧c<58) (hds:∀d∈ds,48≤d∧d<58) (hl:ds.length≤17) (hxs:∀x∈xs,48≤x∧x<58) (x1:1≤xs.length) (x2:xs.length≤4)
  (hq:Q (numV (c::ds):Int) ((if eneg then -(numV xs:Int) else numV xs)-(ds.length:Int)) neg false false ((fltL neg c ds eneg xs).length:Int) true h):zaw Tryz.prog (strN (fltL neg c ds eneg xs)) Q h:=by
 have hcd:∀z∈c::ds,48≤z∧z<58:=fun z hz=>by
  rcases List.mem_cons.1 hz with rfl | hz
  ·omega
  ·exact hds z hz
 have hcl:(c::ds).length≤18:=by rw [List.length_cons];omega
 have hm:=zdl1 c ds
 have hm2:1≤(manL c ds).length∧(manL c ds).length≤19:=by rw [hm];split<;>omega
 have hL:=zdm1 (neg:=neg) (c:=c) (ds:=ds) (eneg:=eneg) (xs:=xs)
 have hs0:sgnN neg≤1:=by unfold sgnN;split<;>omega
 have hs1:sgnN eneg≤1:=by unfold sgnN;split<;>omega
 have gM:= @zed2 neg eneg c ds xs
 have gE:= @zjo2 neg eneg c ds xs
 have gX:= @zjp2 neg eneg c ds xs
 have g0:(fltL neg c ds eneg xs)[0]? =some (if neg then 45 else c):=by
  unfold fltL manL
  cases neg<;>rfl
 have gS:(fltL neg c ds eneg xs)[sgnN neg+(manL c ds).length+1]? =if eneg then some 45 else xs[0]?:=by
  cases eneg with
  | false=>have:=gX (j:=0) (by omega);simpa [sgnN] using this
  | true=>
   unfold fltL
   rw [List.getElem?_append_right (by rw [zph];omega),zph,List.getElem?_append_right (by omega),show sgnN neg+(manL c ds).length+1-sgnN neg-(manL c ds).length=1 by omega]
   rfl
 generalize hT:fltL neg c ds eneg xs=T at*
 have chr:∀ {i x:Nat},T[i]? =some x→x<256→UInt8.toNat (List.getD (strN T).data.toList (Int.toNat ((i:Nat):Int)) 0)=x:=fun {i x} e hx=>by rw [Int.toNat_natCast];exact zqk e hx
 unfold zaw
 rw [zbv]
 refine iteF (fun hh=>by have:=of_decide_eq_true hh;omega) ⟨⟨by decide,by omega⟩,?_⟩
 have c0:=zqk g0 (by split<;>omega)
 rw [c0]
 refine JoinW2.intro (fun n i k=>k=h∧neg=n∧i=((sgnN neg:Nat):Int)) ?_ ?_
 ·cases neg with
  | true=>exact iteF (by show ¬(((45:Nat):Int)==43)=true;decide) (iteT (by show (((45:Nat):Int)==45)=true;decide) ⟨rfl,rfl,rfl⟩)
  | false=>exact iteF (fun hh=>by have:((c:Nat):Int)=43:=beq_iff_eq.1 hh;omega) (iteF (fun hh=>by have:((c:Nat):Int)=45:=beq_iff_eq.1 hh;omega) ⟨rfl,rfl,rfl⟩)
 rintro _ _ h ⟨rfl,rfl,rfl⟩
 have cM0:T[sgnN neg]? =some c:=by have:=gM (j:=0) (by omega);rw [Nat.add_zero] at this;rw [this];rfl
 refine JoinW5.intro (fun hx i b m e k=>k=h∧hx=false∧i=((sgnN neg:Nat):Int)∧b=10∧m=19∧e=101) ?_ ?_
 ·rw [chr cM0 (by omega)]
  refine ⟨fun _=>⟨by omega,by omega⟩,letW ?_⟩
  have hy:((decide (IntKind.wrap .i64 (((sgnN neg:Nat):Int)+2)<(T.length:Int)))&&(((c:Nat):Int)==48))=false:=by
   rw [Bool.and_eq_false_iff]
   right
   rw [Bool.eq_false_iff]
   intro hh
   have:((c:Nat):Int)=48:=beq_iff_eq.1 hh
   omega
  rw [hy]
  refine ⟨fun e=>(by cases e),effF rfl (0:Int) (letW (iteF (by decide) ⟨rfl,rfl,rfl,rfl,rfl,rfl⟩))⟩
 rintro _ _ _ _ _ h ⟨rfl,rfl,rfl,rfl,rfl,rfl⟩
 refine JoinW9.intro (fun m tr i us sd sg nd ndm dp k=>k=h∧m=(numV (c::ds):Int)∧tr=false∧i=((sgnN neg+(manL c ds).length:Nat):Int)∧us=false∧sd=decide (ds≠ [])∧sg=true∧nd=((ds.length+1:Nat):Int)∧ndm=((ds.length+1:Nat):Int)∧dp=if ds=[] then 0 else 1) ?_ ?_
 ·refine LoopW9.intro (fun m tr i us sd sg nd ndm dp k=>k=h∧∃j:Nat,j≤(manL c ds).length∧m=(numV ((c::ds).take (dgN j)):Int)∧tr=false∧i=((sgnN neg+j:Nat):Int)∧us=false∧sd=decide (2≤j)∧sg=decide (1≤j)∧nd=((dgN j:Nat):Int)∧ndm=((dgN j:Nat):Int)∧dp=if 2≤j then 1 else 0)
   (fun _ _ i _ _ _ _ _ _ _=>(T.length-i).toNat) ⟨rfl,0,by omega,by simp [dgN,numV],rfl,by simp,rfl,by decide,by decide,rfl,rfl,rfl⟩ ?_
  rintro _ _ _ _ _ _ _ _ _ h ⟨rfl,j,hj,rfl,rfl,rfl,rfl,rfl,rfl,rfl,rfl,rfl⟩
  have nw:∀ {n:Nat},n<1000→IntKind.wrap .i64 ((n:Int)+1)=((n+1:Nat):Int):=fun {n} hn=>by rw [zae (by omega) (by omega)];omega
  refine iteT (decide_eq_true (by omega)) ?_
  by_cases hjm:j<(manL c ds).length
  ·have gj:=gM hjm
   rcases zib2 hjm with ⟨rfl,hd,ha⟩ | ⟨hj1,z,ha,hz⟩
   · -- the point
    rw [ha] at gj
    rw [chr gj (by decide)]
    have hd1:2≤(manL c ds).length:=by rw [hm,if_neg hd];omega
    refine JoinW8.direct ⟨⟨by omega,by omega⟩,iteF (by decide) (iteT (by decide) (iteF (by decide) ⟨⟨rfl,2,hd1,rfl,rfl,?_,rfl,rfl,rfl,rfl,rfl,rfl⟩,?_⟩))⟩
    ·exact nw (by omega)
    ·rw [nw (by omega)];omega
   · -- a digit
    rw [ha] at gj
    have hz2:=hcd z (List.mem_of_getElem? hz)
    rw [chr gj (by omega)]
    have hdg:dgN j<(c::ds).length:=(List.getElem?_eq_some_iff.1 hz).1
    have hdg1:dgN (j+1)=dgN j+1:=by unfold dgN;split<;>split<;>omega
    have hsn:numV ((c::ds).take (dgN (j+1)))=10*numV ((c::ds).take (dgN j))+(z-48):=by rw [hdg1,List.take_add_one,hz];exact zxf _ _
    have hb1:=znk1 hcd hcl (dgN j)
    have hz0:j=0→z=c:=fun e=>by subst e;exact (Option.some.inj hz).symm
    refine JoinW8.direct ⟨⟨by omega,by omega⟩,iteF (fun hh=>by have:((z:Nat):Int)=95:=beq_iff_eq.1 (eq_of_beq hh).symm;omega) (iteF (fun hh=>by have:((z:Nat):Int)=46:=beq_iff_eq.1 (eq_of_beq hh).symm;omega) (letW (iteT ?_ (letW (iteF (fun hh=> ?_) (iteT (decide_eq_true (by omega)) ?_))))))⟩
    ·rw [decide_eq_true (by omega),decide_eq_true (by omega)];rfl
    ·rw [Bool.and_eq_true] at hh
     have e1:((z:Nat):Int)=48:=beq_iff_eq.1 hh.1
     have e2:((dgN j:Nat):Int)=0:=beq_iff_eq.1 hh.2
     have:j=0:=by unfold dgN at e2;split at e2<;>omega
     have:=hz0 this
     omega
    ·have ew:IntKind.wrap .u64 ((IntKind.wrap .u64 ((numV ((c::ds).take (dgN j)):Int)*10))+(IntKind.wrap .u64 (IntKind.wrap .u8 (((z:Nat):Int)-48))))=(numV ((c::ds).take (dgN (j+1))):Int):=by
      rw [hsn,byte8,zan,zan,zan]
      omega
     rw [ew,nw (n:=dgN j) (by omega),nw (n:=sgnN neg+j) (by omega)]
     refine ⟨⟨rfl,j+1,by omega,rfl,rfl,by omega,rfl,?_,?_,by rw [hdg1],by rw [hdg1],?_⟩,by omega⟩
     ·exact decide_eq_decide.2 (by omega)
     ·rw [decide_eq_true (by omega)]
     ·by_cases c2:2≤j
      ·rw [if_pos c2,if_pos (by omega)]
      ·rw [if_neg c2,if_neg (by omega)]
  · -- behind them
   have hje:j=(manL c ds).length:=by omega
   rw [←hje] at gE
   rw [chr gE (by decide)]
   refine JoinW8.direct ⟨⟨by omega,by omega⟩,iteF (by decide) (iteF (by decide) (letW (iteF (by decide) (effF (by decide) (0:Int) (letW (effF (by decide) (0:Int) (letW (iteF (by decide) ?_))))))))⟩
   have hdj:dgN j=ds.length+1:=by
    rw [hje,hm]
    unfold dgN
    by_cases hd:ds=[]
    ·rw [if_pos hd,hd];rfl
    ·have:=List.length_pos_iff.2 hd
     rw [if_neg hd,if_neg (by omega)]
     omega
   have hall:(c::ds).take (dgN j)=c::ds:=List.take_of_length_le (by rw [hdj];exact Nat.le_refl _)
   refine ⟨rfl,by rw [hall],rfl,by rw [hje],rfl,?_,by rw [decide_eq_true (by omega)],by rw [hdj],by rw [hdj],?_⟩
   ·by_cases hd:ds=[]
    ·rw [hje,hm,if_pos hd,decide_eq_false (by omega),decide_eq_false (fun h=>h hd)]
    ·rw [hje,hm,if_neg hd,decide_eq_true (by omega),decide_eq_true hd]
   ·rw [hje,hm]
    by_cases hd:ds=[]
    ·rw [if_pos hd,if_pos hd,if_neg (by omega)]
    ·rw [if_neg hd,if_neg hd,if_pos (by omega)]
 rintro _ _ _ _ _ _ _ _ _ h ⟨rfl,rfl,rfl,rfl,rfl,rfl,rfl,rfl,rfl,rfl⟩
 refine iteF (by decide) ?_
 refine JoinW1.intro (fun dp k=>k=h∧dp=1) ?_ ?_
 ·by_cases hd:ds=[]
  ·subst hd
   exact iteT (by decide) ⟨rfl,rfl⟩
  ·refine iteF (by rw [decide_eq_true hd];decide) ⟨rfl,by rw [if_neg hd]⟩
 rintro _ h ⟨rfl,rfl⟩
 refine JoinW2.direct (iteF (by decide) ?_)
 have hxb:∀k,numV (xs.take k)<10000:=fun k=>by
  have h1:=zfh1 (zs:=xs.take k) fun z hz'=>hxs z (List.mem_of_mem_take hz')
  have h2:10^(xs.take k).length≤10^4:=Nat.pow_le_pow_right (by decide) (by rw [List.length_take];omega)
  omega
 have hxb':numV xs<10000:=by have:=hxb xs.length;rw [List.take_of_length_le (Nat.le_refl _)] at this;exact this
 refine JoinW3.intro (fun i us dp k=>k=h∧i=(T.length:Int)∧us=false∧dp=1+if eneg then -(numV xs:Int) else numV xs) ?_ ?_
 ·rw [chr gE (by decide),decide_eq_true (show ((sgnN neg+(manL c ds).length:Nat):Int)<(T.length:Int) by omega)]
  refine ⟨fun _=>⟨by omega,by omega⟩,effT (zat (zsf (letW (iteT (by decide) ?_))))⟩
  have ei:IntKind.wrap .i64 (((sgnN neg+(manL c ds).length:Nat):Int)+1)=((sgnN neg+(manL c ds).length+1:Nat):Int):=by rw [zae (by omega) (by omega)];omega
  rw [ei]
  refine iteF (fun hh=>by have:=of_decide_eq_true hh;omega) ⟨⟨by omega,by omega⟩,?_⟩
  obtain ⟨y,gy,hy⟩:∃y,xs[0]? =some y∧48≤y∧y<58:=⟨xs[0],List.getElem?_eq_getElem (by omega),hxs _ (List.getElem_mem _)⟩
  refine JoinW2.intro (fun i e k=>k=h∧i=((sgnN neg+(manL c ds).length+1+sgnN eneg:Nat):Int)∧e=if eneg then -1 else 1) ?_ ?_
  ·cases eneg with
   | true=>
    rw [chr (x:=45) gS (by decide)]
    refine iteF (by decide) (iteT (by decide) ⟨rfl,?_,rfl⟩)
    rw [zae (by omega) (by omega)]
    show _=((_+1:Nat):Int)
    omega
   | false=>
    rw [chr (x:=y) (by rw [gS];exact gy) (by omega)]
    exact iteF (fun hh=>by have:((y:Nat):Int)=43:=beq_iff_eq.1 hh;omega) (iteF (fun hh=>by have:((y:Nat):Int)=45:=beq_iff_eq.1 hh;omega) ⟨rfl,rfl,rfl⟩)
  rintro _ _ h ⟨rfl,rfl,rfl⟩
  have gx0:=gX (j:=0) (by omega)
  rw [Nat.add_zero,gy] at gx0
  rw [chr gx0 (by omega)]
  have n1:¬((sgnN neg+(manL c ds).length+1+sgnN eneg:Nat):Int)≥(T.length:Int):=by omega
  refine ⟨fun _=>⟨by omega,by omega⟩,letW ⟨fun _=>⟨by omega,by omega⟩,letW (iteF (fun hh=> ?_) ?_)⟩⟩
  ·rw [Bool.or_eq_true,Bool.or_eq_true] at hh
   rcases hh with (hh | hh) | hh
   ·exact n1 (of_decide_eq_true hh)
   ·have:=of_decide_eq_true hh;omega
   ·have:=of_decide_eq_true hh;omega
  refine LoopW3.intro (fun i us e k=>k=h∧∃j:Nat,j≤xs.length∧i=((sgnN neg+(manL c ds).length+1+sgnN eneg+j:Nat):Int)∧us=false∧e=(numV (xs.take j):Int)) (fun i _ _ _=>(T.length-i).toNat) ⟨rfl,0,by omega,rfl,rfl,by simp [numV]⟩ ?_
  rintro _ _ _ h ⟨rfl,j,hj,rfl,rfl,rfl⟩
  by_cases hlt:j<xs.length
  ·have gj:=gX hlt
   have gz:xs[j]? =some xs[j]:=List.getElem?_eq_getElem hlt
   obtain ⟨z0,z1⟩:=hxs _ (List.getElem_mem hlt)
   rw [gz] at gj
   have hsn:numV (xs.take (j+1))=10*numV (xs.take j)+(xs[j] - 48):=by rw [List.take_add_one,gz];exact zxf _ _
   have hb1:=hxb j
   have hb2:=hxb (j+1)
   rw [chr gj (by omega)]
   generalize xs[j]=z at*
   have e1:((decide ((48:Int)≤((z:Nat):Int)))&&(decide (((z:Nat):Int)≤(57:Int))))=true:=by rw [decide_eq_true (by omega),decide_eq_true (by omega)];rfl
   have e2:decide (((sgnN neg+(manL c ds).length+1+sgnN eneg+j:Nat):Int)<(T.length:Int))=true:=decide_eq_true (by omega)
   refine ⟨fun _=>⟨by omega,by omega⟩,fun _=>⟨by omega,by omega⟩,letW ⟨fun _=>⟨by omega,by omega⟩,letW (letW (iteT (by rw [e1,e2];rfl) ?_))⟩⟩
   have e3:decide ((numV (xs.take j):Int)<(10000:Int))=true:=decide_eq_true (by omega)
   rw [e3]
   refine JoinW2.direct ⟨⟨by omega,by omega⟩,iteF (fun hh=>by have:((z:Nat):Int)=95:=beq_iff_eq.1 hh;omega) (iteT rfl ⟨⟨by omega,by omega⟩,?_⟩)⟩
   refine ⟨⟨rfl,j+1,hlt,?_,rfl,?_⟩,?_⟩
   ·rw [zae (by omega) (by omega)];omega
   ·rw [zae (n:=(numV (xs.take j):Int)*10) (by omega) (by omega),zae (n:=((z:Nat):Int)) (by omega) (by omega),zae (n:=(numV (xs.take j):Int)*10+(z:Int)) (by omega) (by omega),zae (by omega) (by omega),hsn]
    omega
   ·rw [zae (by omega) (by omega)];omega
  ·have hje:j=xs.length:=by omega
   have e2:decide (((sgnN neg+(manL c ds).length+1+sgnN eneg+j:Nat):Int)<(T.length:Int))=false:=decide_eq_false (by omega)
   rw [e2]
   refine ⟨fun e=>(by cases e),fun e=>(by cases e),letW ⟨fun e=>(by cases e),letW (letW (iteF (by rw [Bool.false_and];decide) ⟨rfl,by omega,rfl,?_⟩))⟩⟩
   rw [hje,List.take_of_length_le (Nat.le_refl _)]
   have key:∀x:Int, -10000≤x→x≤10000→IntKind.wrap .i64 (1+IntKind.wrap .i64 x)=1+x:=fun x a b=>by rw [zae (n:=x) (by omega) (by omega),zae (by omega) (by omega)]
   cases eneg with
   | true=>
    refine (key ((numV xs:Int)* -1) (by omega) (by omega)).trans ?_
    show 1+(numV xs:Int)* -1=1+ -(numV xs:Int)
    omega
   | false=>
    refine (key ((numV xs:Int)*1) (by omega) (by omega)).trans ?_
    show 1+(numV xs:Int)*1=1+(numV xs:Int)
    omega
 rintro _ _ _ h ⟨rfl,rfl,rfl,rfl⟩
 have hpos:0<numV (c::ds):=by
  have:∀(zs:List Nat) (n:Nat),0<n→0<zs.foldl (fun n z=>10*n+(z-48)) n:=fun zs=>by
   induction zs with
   | nil=>intro n hn;exact hn
   | cons z zs ih=>intro n hn;exact ih (10*n+(z-48)) (by omega)
  exact this ds (10*0+(c-48)) (by omega)
 refine JoinW1.intro (fun e k=>k=h∧e=(if eneg then -(numV xs:Int) else numV xs)-(ds.length:Int)) (iteT (by exact bne_iff_ne.2 (by omega)) ⟨rfl,?_⟩) ?_
 ·have key:∀x:Int, -10000≤x→x≤10000→IntKind.wrap .i64 (1+x-((ds.length+1:Nat):Int))=x-(ds.length:Int):=fun x a b=>by rw [zae (by omega) (by omega)];omega
  exact key _ (by cases eneg<;>simp<;>omega) (by cases eneg<;>simp<;>omega)
 rintro _ h ⟨rfl,rfl⟩
 refine ⟨fun e=>(by cases e),effF rfl true (letW (iteF (by decide) hq))⟩
end
end Lf

namespace Lf
theorem zee2 {n v:Nat} (h1:v<10^(n+1)) (h2:n=0∧1≤v∨10^n≤v):∃c ds,digL (n+1) v=c::ds∧49≤c∧c<58∧ds.length=n:=by
 have hl:=zmm (n+1) v
 have ht:=zfc1 n 1 v
 rw [Nat.add_comm 1 n] at ht
 cases hq:digL (n+1) v with
 | nil=>rw [hq] at hl;simp at hl
 | cons c ds=>
  rw [hq] at ht hl
  have e:c=48+v / 10^n%10:=by
   simp only [List.take_succ_cons,List.take_zero] at ht
   exact (List.cons.inj ht).1
  have p:=Nat.pow_pos (n:=n) (show 0<10 by decide)
  have h3:v / 10^n<10:=by rw [Nat.div_lt_iff_lt_mul p,Nat.mul_comm,←Nat.pow_succ];exact h1
  have h4:1≤v / 10^n:=by
   rcases h2 with ⟨rfl,h2⟩ | h2
   ·rw [Nat.pow_zero,Nat.div_one];exact h2
   ·rw [Nat.le_div_iff_mul_le p,Nat.one_mul];exact h2
  rw [List.length_cons] at hl
  exact ⟨c,ds,rfl,by omega,by omega,by omega⟩
section
variable {r:Nat} {neg:Bool}
theorem pF_in (h1:0<r) (h2:r<9218868437227405312): -330≤pF r∧pF r≤330:=by
 obtain ⟨m0,m1,e0,e1, -⟩:=mS_in h1 h2
 unfold pF pP
 split
 ·unfold skewP;omega
 ·unfold zP zip;split<;>omega
theorem zqy1 (h1:0<r) (h2:r<9218868437227405312) {v:Nat} {s:Int} (hv:v%10≠0) (hs: -3000≤s) (he:v*unitW 0 s=valS r):v<144115188075855872∧ -pF r≤s:=by
 obtain ⟨f1,f2⟩:=zby1 h1 h2
 have hp:=pF_in h1 h2
 have hs2: -pF r≤(zbe (mS r) (eS r)).2∧(zbe (mS r) (eS r)).2≤400:=by
  unfold zbe
  split
  ·show -pF r≤ -(pF r-1)∧ -(pF r-1)≤400;omega
  ·split
   ·show -pF r≤ -pF r∧ -pF r≤400;omega
   ·show -pF r≤ -pF r∧ -pF r≤400;omega
 have key:∀(k u:Nat) (t:Int),u≠0→u≤k→ -3000≤t→u*unitW 0 t=valS r→v≤u∧t≤s:=by
  intro k
  induction k with
  | zero=>intro u t h0 hk;omega
  | succ k ih=>
   intro u t h0 hk ht hu
   by_cases h:u%10=0
   ·have e:=zhx (a:=0) (b:=t) (n:=1) (by omega)
    have:=ih (u / 10) (t+1) (by omega) (by omega) (by omega) (by
     rw [←hu,show t+1=t+((1:Nat):Int) from rfl,←e,←Nat.mul_assoc,show u / 10*10^1=u by omega])
    omega
   ·obtain ⟨rfl,rfl⟩:=zzz1 hs ht hv h (he.trans hu.symm)
    exact ⟨Nat.le_refl _,Int.le_refl _⟩
 have:=key _ _ _ f1 (Nat.le_refl _) (by omega) (rfl:(zbe (mS r) (eS r)).1*unitW 0 (zbe (mS r) (eS r)).2=valS r)
 omega
theorem zrh (h1:0<r) (h2:r<9218868437227405312) {out:List Nat} (ht:TextF r neg out):
  ∃(c:Nat) (ds:List Nat) (eneg:Bool) (xs:List Nat) (v:Nat) (s:Int),out=fltL neg c ds eneg xs∧(49≤c∧c<58)∧Digs ds∧ds.length≤17∧Digs xs∧1≤xs.length∧xs.length≤3∧
   numV (c::ds)=v∧(if eneg then -(numV xs:Int) else numV xs)-(ds.length:Int)=s∧v%10≠0∧v<144115188075855872∧ -345≤s∧s≤310∧v*unitW 0 s=valS r:=by
 obtain ⟨v,s,hv,hs,he,rfl⟩:=ht
 obtain ⟨f1,f2⟩:=zqy1 h1 h2 hv hs he
 have hp:=pF_in h1 h2
 obtain ⟨l1,l2⟩:=zxg v
 have l0:=zmn v
 have l18:lenN v≤18:=by
  rcases l2 with l2 | l2
  ·omega
  ·refine Classical.byContradiction fun hn=> ?_
   have:=Nat.pow_le_pow_right (n:=10) (i:=18) (j:=lenN v-1) (by decide) (by omega)
   omega
 have s310:s≤310:=by
  obtain ⟨x1,x2, -⟩:=zty1 (zfd1 h1 h2)
  obtain ⟨w1,w2, -⟩:=zmz1 h1 h2
  obtain ⟨v1,v2⟩:=v_in h1 h2
  have vb:=zhw2 h1 h2
  obtain ⟨b1,b2,b3,b4,b5, -⟩:=zjn h1 h2
  have ht: -1074≤twoF r∧twoF r≤1023:=by unfold twoF;omega
  have hv2:vF r<unitW 0 310:=Nat.lt_of_lt_of_le vb (zfe1 (by have:=zga2 ht.1 ht.2;omega) (by
   have:=zga2 ht.1 ht.2
   rcases Int.le_total 0 (twoF r) with h | h
   ·rw [Int.tdiv_eq_ediv_of_nonneg (by omega)];omega
   ·have:Int.tdiv (twoF r*30103) 100000≤0:=by
     rw [show twoF r*30103= -((-twoF r)*30103) by omega,Int.neg_tdiv,Int.tdiv_eq_ediv_of_nonneg (by omega)]
     omega
    omega))
  have hv3:valS r<unitW 0 311:=by
   have e:=zhx (a:=0) (b:=310) (n:=1) (by omega)
   rw [show (310:Int)+((1:Nat):Int)=311 from rfl] at e
   have:hiF r≤2*vF r:=by
    unfold hiF vF
    rw [show 2*(4*zab r*kF r)=(8*zab r)*kF r by rw [←Nat.mul_assoc,←Nat.mul_assoc]]
    have p0:0<zab r:=(zrg h1 h2).2.2.2.2.2.2
    exact Nat.mul_le_mul_right _ (by omega)
   omega
  have hl:unitW 0 s<unitW 0 311:=by
   have:1*unitW 0 s≤v*unitW 0 s:=Nat.mul_le_mul_right _ (by omega)
   omega
  have:=zhn2 (a:=s) (b:=311) (by omega) hl
  omega
 obtain ⟨n,hn⟩:∃n,lenN v=n+1:=⟨lenN v-1,by omega⟩
 obtain ⟨c,ds,e1,e2,e3,e4⟩:=zee2 (n:=n) (v:=v) (by rw [←hn];exact l1) (by
  rcases l2 with l2 | l2
  ·exact .inl ⟨by omega,by omega⟩
  ·exact .inr (by rw [hn,Nat.add_sub_cancel] at l2;exact l2))
 have hx:((lenN v:Int)+s-1).natAbs<1000:=by omega
 have xl:lenN ((lenN v:Int)+s-1).natAbs≤3:=by
  obtain ⟨-,y2⟩:=zxg ((lenN v:Int)+s-1).natAbs
  rcases y2 with y2 | y2
  ·omega
  ·refine Classical.byContradiction fun hn=> ?_
   have:=Nat.pow_le_pow_right (n:=10) (i:=3) (j:=lenN ((lenN v:Int)+s-1).natAbs-1) (by decide) (by omega)
   omega
 have hd:Digs (c::ds):=by rw [←e1];exact zbx1 _ _
 have ev:numV (c::ds)=v:=by rw [←e1,←hn];exact zdk1 v
 refine ⟨c,ds,decide ((lenN v:Int)+s-1<0),decL ((lenN v:Int)+s-1).natAbs,v,s,?_,⟨e2,e3⟩,fun z hz=>hd z (List.mem_cons_of_mem _ hz),by omega,zxi _,by rw [zse];exact zmn _,by rw [zse];exact xl,ev,?_,hv,f1,by omega,by omega,he⟩
 ·unfold numL fltL headL manL signL
  rw [hn,e1]
  simp only [decide_eq_true_eq,List.append_assoc,List.cons_append,List.nil_append]
 ·rw [zdk1,e4]
  by_cases hneg:(lenN v:Int)+s-1<0
  ·rw [if_pos (decide_eq_true hneg)];omega
  ·rw [if_neg (by rw [decide_eq_false hneg];decide)];omega
end
def hexD (d:Nat):Nat:=if d<10 then 48+d else 87+d
def hexL (b:Nat):List Nat:=(List.range 16).map fun i=>hexD (b / 16^(15-i)%16)
def zcr (b:Nat) (out:List Nat):Prop:=
 if 9218868437227405312<b%9223372036854775808 then out=[110,97,110,58]++hexL b
 else if b%9223372036854775808=9218868437227405312 then out=(if negD b then [45] else [])++ [105,110,102]
 else if b%9223372036854775808=0 then out=(if negD b then [45] else [])++ [48,101,48]
 else TextF (b%9223372036854775808) (negD b) out
theorem zic1 {b:Nat} {x y:List Nat} (hx:zcr b x) (hy:zcr b y):x=y:=by
 unfold zcr at hx hy
 split at hx
 ·rename_i h;rw [if_pos h] at hy;rw [hx,hy]
 ·rename_i h;rw [if_neg h] at hy
  split at hx
  ·rename_i h;rw [if_pos h] at hy;rw [hx,hy]
  ·rename_i h;rw [if_neg h] at hy
   split at hx
   ·rename_i h;rw [if_pos h] at hy;rw [hx,hy]
   ·rename_i h;rw [if_neg h] at hy
    exact zao2 hx hy
theorem zuh {b:Nat} {out:List Nat} (h:zcr b out):out.length≤25∧∀x∈out,x<128:=by
 have sg:∀ {n:Bool},((if n then [45] else []):List Nat).length≤1∧∀x∈((if n then [45] else []):List Nat),x<128:=fun {n}=>by cases n<;>simp
 unfold zcr at h
 split at h
 ·subst h
  refine ⟨by simp [hexL],fun x hx=> ?_⟩
  rw [List.mem_append] at hx
  rcases hx with hx | hx
  ·simp at hx;omega
  ·unfold hexL at hx
   rw [List.mem_map] at hx
   obtain ⟨i, -,rfl⟩:=hx
   unfold hexD
   split<;>omega
 ·split at h
  ·subst h
   refine ⟨by rw [List.length_append];have:=(sg (n:=negD b)).1;simp only [List.length_cons,List.length_nil];omega,fun x hx=> ?_⟩
   rw [List.mem_append] at hx
   rcases hx with hx | hx
   ·exact sg.2 x hx
   ·simp at hx;omega
  ·split at h
   ·subst h
    refine ⟨by rw [List.length_append];have:=(sg (n:=negD b)).1;simp only [List.length_cons,List.length_nil];omega,fun x hx=> ?_⟩
    rw [List.mem_append] at hx
    rcases hx with hx | hx
    ·exact sg.2 x hx
    ·simp at hx;omega
   ·rename_i h1 h2 h3
    obtain ⟨c,ds,eneg,xs,v,s,rfl,hc,hds,dl,hxs,x1,x3, -⟩:=zrh (by omega) (by omega) h
    have hm:=zdl1 c ds
    refine ⟨?_,fun x hx=> ?_⟩
    ·rw [zdm1,hm]
     have:∀b,sgnN b≤1:=fun b=>by cases b<;>decide
     have a1:=this (negD b)
     have a2:=this eneg
     split<;>omega
    ·unfold fltL manL at hx
     rw [List.mem_append,List.mem_append,List.mem_cons,List.mem_cons,List.mem_append] at hx
     rcases hx with hx | (hx | hx) | hx | hx | hx
     ·exact sg.2 x hx
     ·omega
     ·split at hx
      ·cases hx
      ·rcases List.mem_cons.1 hx with hx | hx
       ·omega
       ·have:=hds x hx;omega
     ·omega
     ·exact sg.2 x hx
     ·have:=hxs x hx;omega
end Lf













namespace Lf
open Go Go.Proofs
section
variable {h:Hp}
theorem rdN {l:Sl} {xs:List Nat} {i:Int} {K:Int→Prop} (r:Rw h 1 eN l xs) (h0:0≤i) (h1:i<(xs.length:Int)) (hk:∀x,xs[i.toNat]? =some x→K (x:Int)):
  InB l.base l.len i∧LdW none (shInt .u8) h (sat l.base 1 i) K:=by
 obtain ⟨e1,x,hx,hl⟩:=Rw.read r zyj (by decide) h0 (by rw [r.1];exact h1)
 exact ⟨e1,(x:Int),hl,hk x hx⟩
theorem zbz1 {m:Nat} (h:m<10):decL m=[48+m]:=by
 unfold decL lenN
 rw [if_pos h]
 show []++ [48+m%10]=_
 rw [Nat.mod_eq_of_lt h];rfl
theorem zwi1 {m:Nat} (h:m<18446744073709551616):(decL m).length≤20∧1≤(decL m).length:=by
 rw [zse]
 refine ⟨?_,zmn m⟩
 rcases (zxg m).2 with e | e
 ·omega
 ·refine Classical.byContradiction fun hn=> ?_
  have:=Nat.pow_le_pow_right (n:=10) (i:=20) (j:=lenN m-1) (by decide) (by omega)
  omega
end
end Lf

namespace Lf
open Go Go.Proofs
theorem zdn1 (xs ys:List Nat):(⟨⟨List.append (strN xs).data.toList (strN ys).data.toList⟩⟩:ByteArray)=strN (xs++ys):=by
 rw [zhz,zhz]
 unfold strN
 rw [List.map_append];rfl
theorem zvo (n:Nat):(hexL n).length=16:=by simp [hexL]
theorem zko1 {n i:Nat} (hi:i<16):(hexL n)[i]? =some (hexD (n / 16^(15-i)%16)):=by
 unfold hexL
 rw [List.getElem?_map,List.getElem?_range hi];rfl
section
variable {h:Hp}
theorem and15 (x:Nat) (hx:x<18446744073709551616):bitsI .and .u64 (x:Int) (15:Int)=((x%16:Nat):Int):=by
 unfold bitsI
 dsimp only
 rw [zsc,BitVec.toNat_and,zkx hx,show (BitVec.ofInt 64 15).toNat=2^4-1 by decide,Nat.and_two_pow_sub_one_eq_mod,zan]
 omega
end
end Lf

namespace Lf
open Go Go.Proofs
theorem iteB {c:Prop} [Decidable c] {a b:Prop} (ha:c→a) (hb:¬c→b):if c then a else b:=by
 split
 ·exact ha ‹_›
 ·exact hb ‹_›
section
variable {h:Hp}
end
end Lf



namespace Lf
open Go Go.Proofs
def Said (t:ByteArray) (x e:Int):Prop:=
 (∃w out,w<18446744073709551616∧zcr w out∧t=strN out∧x=IntKind.wrap .i64 (w:Int)∧e=0)∨((∀w out,w<18446744073709551616→zcr w out→t≠strN out)∧x=0∧e=4)
theorem zbb (op:BinOp) (a b:Int):∃n:Nat,bitsI op .u64 a b=(n:Int)∧n<18446744073709551616:=by
 have h:0≤bitsI op .u64 a b∧bitsI op .u64 a b<18446744073709551616:=by
  unfold bitsI
  split<;>(rw [zan];omega)
 exact ⟨(bitsI op .u64 a b).toNat,(Int.toNat_of_nonneg h.1).symm,by omega⟩
theorem zub1 {a b:ByteArray} (h:(a.toList==b.toList)=true):a=b:=by
 have e:=eq_of_beq h
 rw [ByteArray.toList_eq,ByteArray.toList_eq] at e
 exact zug (Array.toList_inj.1 e)
theorem znm1 {w:Nat} (hw:w<18446744073709551616):IntKind.wrap .u64 (IntKind.wrap .i64 (w:Int))=(w:Int):=by
 have:IntKind.wrap .i64 (w:Int)=if w<9223372036854775808 then (w:Int) else (w:Int)-18446744073709551616:=by
  unfold IntKind.wrap
  simp only [IntKind.signed,IntKind.bits]
  grind
 rw [this,zan]
 split<;>omega
theorem zic2 :∀d,d<16→hexD d<256:=by decide
section
variable {h:Hp}
end
end Lf

namespace Lf
open Go Go.Proofs
section
variable {h:Hp}
theorem zuc1 {a b:ByteArray} (h:a≠b):¬(a.toList==b.toList)=true:=fun hh=>h (zub1 hh)
end
end Lf

namespace Lf
open Go Go.Proofs
def pow10F :List Nat:=[4607182418800017408,4621819117588971520,4636737291354636288,4652007308841189376,4666723172467343360,4681608360884174848,4696837146684686336,4711630319722168320,4726483295884279808,4741671816366391296,4756540486875873280,4771362005757984768,4786511204640096256,4801453603149578240,4816244402031689728,4831355200913801216,4846369599423283200,4861130398305394688,4876203697187506176,4891288408196988160,4906019910204099648,4921056587992461136,4936209963552724370]
structure FEnv (h:Hp):Prop where
 pow:Pow10 h
 small:zre h
 opt:LdIs h ⟨2,0,none⟩ [.bool true]
 info:LdIs h ⟨7,0,none⟩ [.int .u64 52]
 f10:∃a c,LdIs h ⟨12,0,none⟩ [.slice (some a) 23 c]∧LdIs h a (pow10F.map fun x=>.float .f64 x)
theorem FEnv.mono {h h':Hp} (e:FEnv h) (hl:h≤h'):FEnv h':=by
 obtain ⟨a,c,e1,e2⟩:=e.f10
 exact ⟨zbd hl e.pow,zbd hl e.small,zbd hl e.opt,zbd hl e.info,a,c,zbd hl e1,zbd hl e2⟩
section
variable {neg eneg:Bool} {c:Nat} {ds xs:List Nat} {h:Hp}
theorem zas2 {s p:ByteArray} {x y:Nat} {Q:Int→Hp→Prop} (hs:1≤s.size) (hp:1≤p.size) (hx:(s.data.toList.getD 0 0).toNat=x) (hy:(p.data.toList.getD 0 0).toNat=y) (hd:x<65) (hne:x≠y) (hq:Q 0 h):zaj Tryz.prog s p Q h:=by
 unfold zaj
 refine LoopW1.intro (fun i k=>i=0∧k=h) (fun _ _=>0) ⟨rfl,rfl⟩ ?_
 rintro _ h ⟨rfl,rfl⟩
 have hm:(0:Int)<min2I ((p.size:Nat):Int) ((s.size:Nat):Int):=by unfold min2I;split<;>omega
 rw [show Int.toNat 0=0 from rfl,hx,hy]
 refine iteT (decide_eq_true hm) ⟨⟨by decide,by omega⟩,JoinW1.direct (letW (iteF (fun hh=> ?_) ⟨⟨by decide,by omega⟩,iteT (bne_iff_ne.2 (by omega)) hq⟩))⟩
 rw [Bool.and_eq_true] at hh
 have:=of_decide_eq_true hh.1
 omega
theorem zid1 {Q:Nat→Int→Bool→Hp→Prop} (hc:48≤c∧c<58) (hq:Q 0 0 false h):zay Tryz.prog (strN (fltL neg c ds eneg xs)) Q h:=by
 have hL:=zdm1 (neg:=neg) (c:=c) (ds:=ds) (eneg:=eneg) (xs:=xs)
 have hm:=zdl1 c ds
 have hm1:1≤(manL c ds).length:=by rw [hm];split<;>omega
 have g0:(fltL neg c ds eneg xs)[0]? =some (if neg then 45 else c):=by
  unfold fltL manL
  cases neg<;>rfl
 unfold zay
 rw [zqk g0 (by split<;>omega),zbv]
 refine iteF (fun hh=>by have:((fltL neg c ds eneg xs).length:Int)=0:=beq_iff_eq.1 hh;omega) ⟨⟨by decide,by omega⟩,JoinW3.direct ?_⟩
 cases neg with
 | false=>
  have nc:∀n:Int,58≤n∨n<48→¬((((if false=true then 45 else c:Nat):Nat):Int)==n)=true:=fun n hn hh=>by
   have:((c:Nat):Int)=n:=beq_iff_eq.1 hh
   omega
  refine JoinW1.direct (iteF (nc 43 (by omega)) (iteF (nc 45 (by omega)) ?_))
  refine JoinW1.direct (iteF (nc 105 (by omega)) (iteF (nc 73 (by omega)) ?_))
  exact JoinW1.direct (iteF (nc 110 (by omega)) (iteF (nc 78 (by omega)) hq))
 | true=>
  refine JoinW1.direct (iteF (by show ¬(((45:Nat):Int)==43)=true;decide) (iteT (by show (((45:Nat):Int)==45)=true;decide) ?_))
  refine JoinW1.direct ⟨⟨by decide,by omega⟩,iteT (by show (((45:Nat):Int)==45)=true;decide) ⟨⟨by decide,by omega⟩,?_⟩⟩
  have e:(strN (fltL true c ds eneg xs)).extract 1 (fltL true c ds eneg xs).length=strN (fltL false c ds eneg xs):=by
   rw [zld _ _ _ (Nat.le_refl _),List.take_of_length_le (Nat.le_refl _)]
   rfl
  rw [e]
  have g1:(fltL false c ds eneg xs)[0]? =some c:=rfl
  have h1:=zdm1 (neg:=false) (c:=c) (ds:=ds) (eneg:=eneg) (xs:=xs)
  refine zas (zas2 (x:=c) (y:=105) (by rw [zbv];omega) (by decide) (zqk g1 (by omega)) (by decide) (by omega) (by omega) ?_)
  exact JoinW1.direct (letW (iteF (by decide) (letW (iteF (by decide) hq))))
theorem zid2 {b:Int}:SemIs Tryz.prog (convert 51 48 (.int .u64 b)) h (.float .f64 (f64.nearest b)):=by
 refine zwl fun w=> ?_
 have u1:=run_underlying' (e:=ty51) tb_ok (t:=51) rfl w
 have u2:=run_underlying' (e:=ty48) tb_ok (t:=48) rfl w
 simp only [convert,Sem.run_bind,u1,u2,Result.andThen_ok]
 rfl
end
end Lf



namespace Lf
open Go Go.Proofs
structure PEnv (h:Hp):Prop where
 env:FEnv h
 tz:LdIs h ⟨14,15,none⟩ [.int .u8 4]
theorem PEnv.mono {h h':Hp} (e:PEnv h) (hl:h≤h'):PEnv h':=⟨e.env.mono hl,zbd hl e.tz⟩
section
variable {h:Hp}
theorem zie2 {Q:Int→Hp→Prop} (e:PEnv h) (hq:Q 4 h):zge Tryz.prog (16:Int) Q h:=by
 unfold zge
 refine zoo ?_
 unfold zjd
 have e1:shrI .u64 (IntKind.wrap .u64 ((bitsI .and .u64 (16:Int) (IntKind.wrap .u64 ((0:Int)-16)))*(285870213051353865:Int))) (58:Int)=15:=by decide+kernel
 rw [e1]
 refine iteF (by decide) ⟨by decide,⟨by decide,by decide⟩,ld_at (sh:=shInt .u8) (4:Int) ?_ hq⟩
 show LdIs h (Addr.add ⟨_,0,none⟩ 15) _
 rw [box_add]
 exact e.tz
theorem zef2 {w j:Nat} (hj:j<16):(hexL w).drop (16-(j+1))=hexD (w / 16^j%16)::(hexL w).drop (16-j):=by
 have h1:=zko1 (n:=w) (i:=15-j) (by omega)
 obtain ⟨h2,h3⟩:=List.getElem?_eq_some_iff.1 h1
 rw [show 16-(j+1)=15-j by omega,List.drop_eq_getElem_cons h2,h3,show 15-(15-j)=j by omega,show 15-j+1=16-j by omega]
theorem zud1 :∀d,d<16→(List.getD ([48,49,50,51,52,53,54,55,56,57,97,98,99,100,101,102,103,104,105,106,107,108,109,110,111,112,113,114,115,116,117,118,119,120,121,122]:List UInt8) d 0).toNat=hexD d:=by decide
theorem zue1 {α:Type} {n:Nat} {z v:α} {suf:List α}:(List.replicate (n+1) z++suf).set n v=List.replicate n z++v::suf:=by
 rw [List.replicate_succ',List.append_assoc,List.set_append_right (h:=by simp)]
 simp
theorem zkp1 {w:Nat} {Q:Sl→ByteArray→Hp→Prop} (e:PEnv h) (hw:w<18446744073709551616) (hw0:1152921504606846976≤w) (hk:∀s h',h≤h'→Q s (strN (hexL w)) h'):
  zeh Tryz.prog ⟨none,0,0⟩ (w:Int) (16:Int) false false Q h:=by
 unfold zeh
 refine JoinW0.direct (letW (letW (iteF (by decide) ?_)))
 intro b ty hb
 generalize hbuf:([.int .u8 (0:Int),_,_,_,_,_,_,_,_,_,_,_,_,_,_,_,_,_,_,_,_,_,_,_,_,_,_,_,_,_,_,_,_,_,_,_,_,_,_,_,_,_,_,_,_,_,_,_,_,_,_,_,_,_,_,_,_,_,_,_,_,_,_,_,_]:List Value)=buf
 have hbl:buf=List.replicate 65 (Value.int .u8 (0:Int)):=by rw [←hbuf];rfl
 have hle:=ziv (o:=.cells buf.toArray ty (0,0)) hb
 have kb:Blk (h.set b (.cells buf.toArray ty (0,0))) b buf:=⟨ty,zec⟩
 clear hbuf
 subst hbl
 generalize h.set b (.cells (List.replicate 65 (Value.int .u8 (0:Int))).toArray ty (0,0))=h1 at*
 refine JoinW1.direct (iteF (by decide) ?_)
 refine JoinW1.intro (fun i k=>i=49∧Mv [b] h1 [b] k∧Blk k b (List.replicate 49 (Value.int .u8 (0:Int))++(hexL w).map fun (c:Nat)=>Value.int .u8 (c:Int))) ?_ ?_
 ·refine zlo ?_
  unfold zgy
  refine iteT (by decide+kernel) (zqh ?_)
  rw [show IntKind.wrap .u64 (16:Int)=16 by decide]
  refine zie2 (e.mono hle) ?_
  refine LoopW2.intro (fun u i k=>∃j:Nat,j≤15∧u=((w / 16^j:Nat):Int)∧i=((65-j:Nat):Int)∧Mv [b] h1 [b] k∧Blk k b (List.replicate (65-j) (Value.int .u8 (0:Int))++((hexL w).drop (16-j)).map fun (c:Nat)=>Value.int .u8 (c:Int))) (fun _ i _=>i.toNat)
   ⟨0,by omega,by rw [Nat.pow_zero,Nat.div_one],rfl,Mv.refl _ _,by rw [List.drop_of_length_le (by rw [zvo];omega)];simpa using kb⟩ ?_
  rintro _ _ k ⟨j,hj,rfl,rfl,mv,kb⟩
  have hlt:w / 16^j<18446744073709551616:=Nat.lt_of_le_of_lt (Nat.div_le_self _ _) hw
  have hd:w / 16^j%16<16:=Nat.mod_lt _ (by decide)
  have ei:IntKind.wrap .i64 (((65-j:Nat):Int)-1)=((64-j:Nat):Int):=by rw [zae (by omega) (by omega)];omega
  have hblk:List.replicate (65-j) (Value.int .u8 (0:Int))=List.replicate (64-j+1) (Value.int .u8 (0:Int)):=by rw [show 64-j+1=65-j by omega]
  rw [hblk] at kb
  have ea:Addr.add (⟨b,0,none⟩:Addr) (64-j)=⟨b,64-j,none⟩:=by rw [box_add,Nat.zero_add]
  rw [ei,Int.toNat_natCast,Nat.mul_one,ea]
  have hsuf:∀d,d=w / 16^j%16→Value.int .u8 ((hexD d:Nat):Int)::((hexL w).drop (16-j)).map (fun (c:Nat)=>Value.int .u8 (c:Int))=((hexL w).drop (16-(j+1))).map fun (c:Nat)=>Value.int .u8 (c:Int):=fun d e=>by
   rw [zef2 (by omega),e];rfl
  by_cases h16:16≤w / 16^j
  ·refine iteT (decide_eq_true (by omega)) ?_
   rw [show IntKind.wrap .u64 ((16:Int)-1)=15 by decide,and15 _ hlt,Int.toNat_natCast,zud1 _ hd]
   have hj15:j<15:=by
    refine Classical.byContradiction fun hn=> ?_
    have:j=15:=by omega
    subst this
    omega
   refine ⟨⟨by omega,by omega⟩,⟨by omega,by omega⟩,put1 kb (by rw [List.length_append,List.length_replicate];omega) fun k2 m2 b2=>⟨by decide,?_⟩⟩
   rw [zue1,hsuf _ rfl] at b2
   have es:shrI .u64 ((w / 16^j:Nat):Int) (IntKind.wrap .u64 (4:Int))=((w / 16^(j+1):Nat):Int):=by
    rw [show IntKind.wrap .u64 (4:Int)=((4:Nat):Int) by decide,shrN _ (by decide),show (2:Nat)^4=16 from rfl,Nat.div_div_eq_div_mul,Nat.pow_succ]
   rw [es]
   refine ⟨⟨j+1,by omega,rfl,by rw [show 65-(j+1)=64-j by omega],mv.trans m2,?_⟩,by omega⟩
   rw [show 65-(j+1)=64-j by omega]
   exact b2
  ·refine iteF (fun hh=>h16 (by have:=of_decide_eq_true hh;omega)) ?_
   have hj15:j=15:=by
    refine Classical.byContradiction fun hn=>h16 ?_
    have hp:=Nat.pow_le_pow_right (n:=16) (i:=j) (j:=14) (by decide) (by omega)
    rw [Nat.le_div_iff_mul_le (Nat.pow_pos (by decide))]
    have:=Nat.mul_le_mul_left 16 hp
    omega
   subst hj15
   rw [Nat.mod_eq_of_lt (by omega)] at hd hsuf
   rw [Int.toNat_natCast,zud1 _ hd]
   refine ⟨⟨by omega,by omega⟩,⟨by omega,by omega⟩,put1 kb (by rw [List.length_append,List.length_replicate];omega) fun k2 m2 b2=>⟨rfl,mv.trans m2,?_⟩⟩
   rw [zue1,hsuf _ rfl] at b2
   exact b2
 rintro _ k ⟨rfl,mv,kb⟩
 refine iteF (by decide) (iteF (by decide) ⟨by decide,letW ?_⟩)
 have eb:sbase (some ⟨b,0,none⟩) 1 (Int.toNat 49) 65=some ⟨b,49,none⟩:=by unfold sbase;rw [if_neg (by decide)];show some (Addr.add _ _)=_;rw [box_add];rfl
 rw [eb]
 have hin:∀x∈hexL w,x<256:=fun x hx=>by
  unfold hexL at hx
  obtain ⟨i, -,rfl⟩:=List.mem_map.1 hx
  exact zic2 (w / 16^(15-i)%16) (Nat.mod_lt _ (by decide))
 refine ⟨strN (hexL w),zrf (e:=5) (l:=⟨some ⟨b,49,none⟩,65-Int.toNat 49,65-Int.toNat 49⟩) (tb_ok.und _ ty74 rfl) (tb_ok.und _ ty5 rfl) (tb_ok.und _ ty9 rfl) (zdj1 kb (by rw [zvo];rfl) ?_) hin,hk _ _ ?_⟩
 ·rw [List.drop_append_of_le_length (by simp),List.drop_of_length_le (by simp),List.nil_append,List.take_of_length_le (by rw [List.length_map];exact Nat.le_refl _),zia1]
 ·exact fun c o hc=>mv.keep c o (hle c o hc) (by simp only [List.mem_singleton];intro e;rw [e,hb] at hc;cases hc)
theorem zwj1 {w:Nat} {Q:ByteArray→Hp→Prop} (e:PEnv h) (hw:w<18446744073709551616) (hw0:1152921504606846976≤w) (hk:∀h',h≤h'→Q (strN (hexL w)) h'):zuy Tryz.prog (w:Int) Q h:=by
 unfold zuy
 refine zvj ?_
 unfold zpk
 refine zmy ?_
 unfold zhu
 refine iteF (by decide) (zmz (zkp1 e hw hw0 fun s h' hl=> ?_))
 dsimp only
 rw [zbv,zvo]
 refine zzl ?_
 unfold zvv
 refine iteT (by decide) ⟨?_,?_⟩
 ·show 0+16≤_;decide
 ·have:=hk h' hl
  have e2:(⟨⟨List.append (⟨#[]⟩:ByteArray).data.toList (strN (hexL w)).data.toList⟩⟩:ByteArray)=strN (hexL w):=by
   show (⟨⟨[]++(strN (hexL w)).data.toList⟩⟩:ByteArray)=_
   rw [List.nil_append]
  rw [e2]
  exact this
theorem zeg2 {h0:Hp} {dst:Sl} {xs:List Nat} {neg:Bool} {Q:Sl→Hp→Prop} (hw:h0≤h) (o:ON h0 h dst xs) (hx:xs.length<1000)
  (hk:∀r h',h0≤h'→ON h0 h' r (xs++((if neg then [45] else [])++ [48,101,43,48,48]))→Q r h'):zcf Tryz.prog dst neg ⟨none,0,0⟩ (0:Int) (0:Int) (-1:Int) (101:Int) true Q h:=by
 unfold zcf
 refine JoinW2.direct (letW (iteF (by decide) (JoinW1.direct (iteT (by decide) (iteT (by decide) ?_)))))
 refine JoinW1.intro (fun d k=>h0≤k∧ON h0 k d (xs++if neg then [45] else [])) ?_ ?_
 ·cases neg with
  | true=>exact iteT rfl (app1 (c:=45) hw o rfl (by omega) fun l' h' hl' o'=>⟨hl',o'⟩)
  | false=>exact iteF (by decide) ⟨hw,by simpa using o⟩
 rintro d k ⟨lk,od⟩
 have hlen:(xs++if neg then [45] else []).length<1002:=by rw [List.length_append];split<;>simp<;>omega
 rw [←List.append_assoc] at hk
 generalize (xs++if neg then [45] else [])=ys at*
 refine JoinW1.direct (iteF (by decide) ?_)
 refine app1 (c:=48) lk od rfl (by omega) fun r1 k1 l1 o1=> ?_
 refine JoinW1.direct (iteF (by decide) ?_)
 refine app1 (c:=101) l1 o1 rfl (by rw [List.length_append,List.length_singleton];omega) fun r2 k2 l2 o2=> ?_
 refine JoinW1.direct (iteT (by decide) (JoinW2.direct (iteF (by decide) ?_)))
 refine app1 (c:=43) l2 o2 rfl (by rw [List.length_append,List.length_append];simp only [List.length_singleton];omega) fun r3 k3 l3 o3=>iteT (by decide) ?_
 refine app2 (c:=48) (d:=48) l3 o3 rfl (by decide) (by rw [List.length_append,List.length_append,List.length_append];simp only [List.length_singleton];omega) fun r4 k4 l4 o4=>hk r4 k4 l4 ?_
 simpa using o4
theorem zcx1 {w:Nat} {Q:ByteArray→Hp→Prop} (hw64:w<18446744073709551616) (w0:w%9223372036854775808=0) (hk:∀h',h≤h'→Q (strN ((if negD w then [45] else [])++ [48,101,43,48,48])) h'):
  zdw Tryz.prog w (101:Int) (-1:Int) (64:Int) Q h:=by
 unfold zdw
 refine zfy ?_
 unfold zdx
 refine iteF (by decide) (iteT (by decide) ⟨by decide,fun b t hb=> ?_⟩)
 have hle:=ziv (o:=.cells (zbm [Value.int .u8 (0:Int)] (max2I (IntKind.wrap .i64 ((-1:Int)+4)) 24).toNat).toArray t (0,0)) hb
 have own:ON h (h.set b (.cells (zbm [Value.int .u8 (0:Int)] (max2I (IntKind.wrap .i64 ((-1:Int)+4)) 24).toNat).toArray t (0,0))) ⟨some ⟨b,0,none⟩,(0:Int).toNat,(max2I (IntKind.wrap .i64 ((-1:Int)+4)) 24).toNat⟩ []:=
  ⟨rfl,Nat.zero_le _,.inr ⟨b,_,t,rfl,zec,(by show (zbm [Value.int .u8 (0:Int)] (max2I (IntKind.wrap .i64 ((-1:Int)+4)) 24).toNat).length=(max2I (IntKind.wrap .i64 ((-1:Int)+4)) 24).toNat*1;decide),rfl,hb⟩⟩
 refine zil ?_
 unfold zds
 refine JoinW4.direct ⟨(w:Int),rfl,⟨by decide,by decide,by decide,by decide,by decide,?_⟩⟩
 have zin:∀ {n:Bool},∀x∈((if n then [45] else [])++ [48,101,43,48,48]:List Nat),x<256:=fun {n} x hx=>by
  cases n<;>simp at hx<;>omega
 have hcase:w=0∨w=9223372036854775808:=by omega
 have fin:∀ {n:Bool} {r:Sl} {h':Hp},n=negD w→h≤h'→ON h h' r ([]++((if n then [45] else [])++ [48,101,43,48,48]))→∃x,SemIs Tryz.prog (convert 74 9 r.v) h' (.string x)∧Q x h':=fun {n r h'} hn hl o=>by
  subst hn
  rw [List.nil_append] at o
  exact ⟨_,zrf (e:=5) (tb_ok.und _ ty74 rfl) (tb_ok.und _ ty5 rfl) (tb_ok.und _ ty9 rfl) (Own.rw o zyj) zin,hk h' hl⟩
 rw [show IntKind.wrap .i64 ((shlI .i64 (1:Int) (11:Int))-(1:Int))=((2^11-1:Nat):Int) by decide,show IntKind.wrap .u64 ((shlI .u64 (1:Int) (52:Int))-(1:Int))=(4503599627370495:Int) by decide,show shlI .u64 (1:Int) (52:Int)=((1*2^52:Nat):Int) by decide,
  show IntKind.wrap .i64 ((11:Int)+(52:Int))=((63:Nat):Int) by decide,show (52:Int)=((52:Nat):Int) from rfl,shrN w (by decide),shrN w (by decide),zmx1 11 (by omega) (by decide),zti1 hw64]
 have hneg:(((w / 2^63:Nat):Int) !=(0:Int))=negD w:=by
  unfold negD
  by_cases c:9223372036854775808≤w
  ·rw [decide_eq_true c];exact bne_iff_ne.2 (by omega)
  ·rw [decide_eq_false c,Bool.eq_false_iff]
   intro hh
   exact bne_iff_ne.1 hh (by omega)
 rw [hneg,show w / 2^52%2^11=0 by omega,show w%4503599627370496=0 by omega]
 clear hneg hcase w0 hw64
 refine iteF (by decide) (JoinW2.direct (iteT (by decide) (iteF (by decide) (letW (iteF (by decide) (iteT rfl ?_))))))
 refine zim (s:=⟨none,0,0⟩) ?_
 exact zeg2 hle own (by decide) fun r h' hl o=>fin rfl hl o
end
end Lf

namespace Lf
open Go Go.Proofs
section
variable {h:Hp}
theorem zxj {n:Int} {w:Nat} {Q:ByteArray→Hp→Prop} (hn:IntKind.wrap .u64 n=(w:Int)) (hw:w<18446744073709551616) (e:PEnv h) (hk:∀h' out,h≤h'→zcr w out→Q (strN out) h'):znl Tryz.prog n Q h:=by
 have hf:zht1 n=w:=by unfold zht1;rw [hn,Int.toNat_natCast]
 by_cases c1:9218868437227405312<w%9223372036854775808
 ·unfold znl
  refine zti (zkh1 ?_)
  rw [hf]
  refine zhy (sh:=zad) (v:=isNaN w) rfl (iteT (by rw [zkd1 hw];exact decide_eq_true c1) ?_)
  rw [hn]
  refine zct1 (zwj1 e hw (by omega) fun h' hl=>⟨by rw [zbv,zvo];decide,?_⟩)
  have e1:(⟨⟨110::(97::(110::(58::(strN (hexL w)).data.toList)))⟩⟩:ByteArray)=strN ([110,97,110,58]++hexL w):=by rw [←zdn1];rfl
  rw [e1]
  exact hk h' _ hl (by unfold zcr;rw [if_pos c1])
 by_cases c0:0<w%9223372036854775808∧w%9223372036854775808<9218868437227405312
 ·obtain ⟨f1,f2⟩:=zby1 c0.1 c0.2
  refine zec2 hf c0.1 c0.2 f1 (by omega) e.env.pow e.env.small fun h' out hl hp=>hk h' out hl ?_
  unfold zcr
  rw [if_neg c1,if_neg (by omega),if_neg (by omega)]
  exact znh1 c0.1 c0.2 hp
 have nn:¬isNaN w=true:=by rw [zkd1 hw];exact zor c1
 unfold znl
 refine zti (zkh1 ?_)
 rw [hf]
 refine zhy (sh:=zad) (v:=isNaN w) rfl (iteF nn ?_)
 have o1:=zvk (a:=w) (b:=9218868437227405311) hw (by omega) c1 (by omega)
 have o2:=zvk (a:=w) (b:=18442240474082181119) hw (by omega) c1 (by omega)
 have r1:rzD 9218868437227405311=9218868437227405311:=by unfold rzD negD;rw [decide_eq_false (by omega)];decide
 have r2:rzD 18442240474082181119= -9218868437227405311:=by unfold rzD negD;rw [decide_eq_true (by omega)];decide
 rw [r1] at o1
 rw [r2] at o2
 have gt_:∀ {x y:Int},y<x→compare x y=.gt:=fun {x y} h=>by rw [Int.compare_eq_gt];omega
 have lt_:∀ {x y:Int},x<y→compare x y=.lt:=fun {x y} h=>by rw [Int.compare_eq_lt];omega
 have hz:rzD w=if negD w then -((w%9223372036854775808:Nat):Int) else ((w%9223372036854775808:Nat):Int):=rfl
 by_cases c2:w%9223372036854775808=9218868437227405312
 ·rw [c2] at hz
  cases hb:negD w with
  | false=>
   rw [hb,if_neg (by decide)] at hz
   refine zhy (sh:=zad) (v:=f64.format.order w 9218868437227405311==some .gt) rfl (iteT ?_ ?_)
   ·show (dbl.order w 9218868437227405311==some .gt)=true
    rw [o1,gt_ (by rw [hz];decide)];rfl
   ·refine hk h [105,110,102] (Hp.le_refl _) ?_
    unfold zcr
    rw [if_neg c1,if_pos c2,hb];rfl
  | true=>
   rw [hb,if_pos rfl] at hz
   refine zhy (sh:=zad) (v:=f64.format.order w 9218868437227405311==some .gt) rfl (iteF (fun hh=> ?_) ?_)
   ·have hh:(dbl.order w 9218868437227405311==some .gt)=true:=hh
    rw [o1] at hh
    exact zqw1 (by rw [hz];decide) (Option.some.inj (eq_of_beq hh))
   refine zhy (sh:=zad) (v:=f64.format.order w 18442240474082181119==some .lt) rfl (iteT ?_ ?_)
   ·show (dbl.order w 18442240474082181119==some .lt)=true
    rw [o2,lt_ (by rw [hz];decide)];rfl
   ·refine hk h [45,105,110,102] (Hp.le_refl _) ?_
    unfold zcr
    rw [if_neg c1,if_pos c2,hb];rfl
 ·have c3:w%9223372036854775808=0:=by omega
  rw [c3] at hz
  have hz0:rzD w=0:=by rw [hz];split<;>rfl
  refine zhy (sh:=zad) (v:=f64.format.order w 9218868437227405311==some .gt) rfl (iteF (fun hh=> ?_) ?_)
  ·have hh:(dbl.order w 9218868437227405311==some .gt)=true:=hh
   rw [o1] at hh
   exact zqw1 (by rw [hz0];decide) (Option.some.inj (eq_of_beq hh))
  refine zhy (sh:=zad) (v:=f64.format.order w 18442240474082181119==some .lt) rfl (iteF (fun hh=> ?_) ?_)
  ·have hh:(dbl.order w 18442240474082181119==some .lt)=true:=hh
   rw [o2] at hh
   exact zam2 (by rw [hz0];decide) (Option.some.inj (eq_of_beq hh))
  have hfin:zcr w ((if negD w then [45] else [])++ [48,101,48]):=by
   unfold zcr
   rw [if_neg c1,if_neg c2,if_pos c3]
  refine zlc (zcx1 hw c3 fun h1 l1=> ?_)
  have es:(if negD w then [45] else [])++ [48,101,43,48,48]=((if negD w then [45] else [])++ [48])++101:: [43,48,48]:=by simp
  rw [es]
  refine zhv (zgb2 (c:=101) (by decide) ?_ (by simp) (by cases negD w<;>simp) ?_)
  ·intro x hx
   cases hb:negD w<;>rw [hb] at hx<;>simp at hx<;>omega
  refine zue (zaj2 (sg:=43) (zs:=[48,48]) (.inl rfl) (by decide) (by decide) (by decide) fun h2 er l2 _=> ?_)
  have e0:(if (43:Nat)=45 then -((numV [48,48]:Nat):Int) else ((numV [48,48]:Nat):Int))=0:=by decide
  rw [e0]
  have hsz:∀xs:List Nat,(⟨⟨List.append (strN xs).data.toList [101]⟩⟩:ByteArray)=strN (xs++ [101]):=fun xs=>by rw [←zdn1];rfl
  have hl2:((if negD w then [45] else [])++ [48]:List Nat).length≤2:=by cases negD w<;>simp
  refine ⟨by rw [zbv];omega,znz (zqv1 (by decide) (by decide) (zbd (Hp.le_trans l1 l2) e.env.small) fun zs h3 l3 hz3=> ?_)⟩
  have hzs:zs=[48]:=by
   have:=zav1 hz3
   rw [this,show Int.natAbs 0=0 from rfl,zbz1 (by decide)]
  subst hzs
  rw [hsz]
  refine ⟨by rw [zbv,zbv,List.length_append];simp only [List.length_cons,List.length_nil];show _+_≤_;rw [show (signL 0++ [48]:List Nat).length=1 from rfl];omega,?_⟩
  have e3:(⟨⟨List.append (List.append (strN ((if negD w then [45] else [])++ [48])).data.toList [101]) (strN (signL 0++ [48])).data.toList⟩⟩:ByteArray)=strN ((if negD w then [45] else [])++ [48,101,48]):=by
   have e4:List.append (strN ((if negD w then [45] else [])++ [48])).data.toList [101]=(strN (((if negD w then [45] else [])++ [48])++ [101])).data.toList:=by rw [←zdn1 ((if negD w then [45] else [])++ [48]) [101]];rfl
   rw [e4,zdn1]
   congr 1
   cases negD w<;>rfl
  rw [e3]
  exact hk h3 _ (Hp.le_trans l1 (Hp.le_trans l2 l3)) hfin
end
end Lf

namespace Lf
def WholeF (x m:Nat):Prop:=4503599627370496≤x∧x<9218868437227405312∧ -60≤zac x∧zac x≤60∧zab x*2^(zac x+60).toNat=m*2^60
theorem zfi1 {m:Nat} (m0:0<m) (m1:m<9007199254740992):WholeF (rungD m 0 false) m:=by
 have hb:=zqj m
 have hl:2^(bitsN m-1)≤m:=by
  unfold bitsN
  rw [if_neg (by omega),Nat.add_sub_cancel]
  exact Nat.log2_self_le (by omega)
 have hb0:1≤bitsN m:=by unfold bitsN;rw [if_neg (by omega)];omega
 have hb1:bitsN m≤53:=by
  refine Classical.byContradiction fun hn=> ?_
  have:=Nat.pow_le_pow_right (n:=2) (i:=53) (j:=bitsN m-1) (by decide) (by omega)
  omega
 have ho:offD m 0=(bitsN m:Int)-53:=by
  unfold offD
  rw [if_neg (by omega)]
 obtain ⟨j,hj⟩:∃j:Nat,53=bitsN m+j:=⟨53-bitsN m,by omega⟩
 have hq:keptD m (offD m 0) false=m*2^j:=by
  unfold keptD
  rw [ho,if_pos (by omega),show (-((bitsN m:Int)-53)).toNat=j by omega]
 have q0:4503599627370496≤m*2^j:=by
  have:=Nat.mul_le_mul_right (2^j) hl
  rw [←Nat.pow_add,show bitsN m-1+j=52 by omega] at this
  exact this
 have q1:m*2^j<9007199254740992:=by
  have:=Nat.mul_lt_mul_of_pos_right hb (Nat.two_pow_pos j)
  rw [←Nat.pow_add,←hj] at this
  exact this
 have e:rungD m 0 false=(1075-j)*4503599627370496+(m*2^j-4503599627370496):=by
  have e0:rungD m 0 false=if keptD m (offD m 0) false<4503599627370496 then keptD m (offD m 0) false else if 2047≤0+offD m 0+1075 then 9218868437227405312 else min ((0+offD m 0+1075).toNat*4503599627370496+(keptD m (offD m 0) false-4503599627370496)) 9218868437227405312:=rfl
  rw [e0,hq]
  have hoj:offD m 0= -(j:Int):=by omega
  rw [hoj]
  clear hq ho e0 hoj hb hl hb0
  generalize m*2^j=q at*
  rw [if_neg (show ¬q<4503599627370496 by omega),if_neg (show ¬(2047:Int)≤0+ -(j:Int)+1075 by omega),show ((0:Int)+ -(j:Int)+1075).toNat=1075-j by omega]
  exact Nat.min_eq_left (by omega)
 have hx:¬rungD m 0 false<4503599627370496:=by omega
 have hd:rungD m 0 false / 4503599627370496=1075-j:=by omega
 have hr:rungD m 0 false%4503599627370496=m*2^j-4503599627370496:=by omega
 have hM:zab (rungD m 0 false)=m*2^j:=by unfold zab;rw [if_neg hx,hr];omega
 have hE:zac (rungD m 0 false)= -(j:Int):=by unfold zac;rw [if_neg hx,hd];omega
 refine ⟨by omega,by omega,by omega,by omega,?_⟩
 rw [hM,hE,Nat.mul_assoc,←Nat.pow_add,show j+(-(j:Int)+60).toNat=60 by omega]
theorem zwk1 :∀k,k<23→(decide (4503599627370496≤pow10F.getD k 0)&&decide (pow10F.getD k 0<9218868437227405312)&&decide (-60≤zac (pow10F.getD k 0))&&decide (zac (pow10F.getD k 0)≤60)&&decide (zab (pow10F.getD k 0)*2^(zac (pow10F.getD k 0)+60).toNat=10^k*2^60))=true:=by decide+kernel
theorem zfj1 {k x:Nat} (hx:pow10F[k]? =some x):WholeF x (10^k)∧k<23:=by
 have hk:k<23:=(List.getElem?_eq_some_iff.1 hx).1
 have:=zwk1 k hk
 rw [show pow10F.getD k 0=x by simp [List.getD,hx]] at this
 simp only [Bool.and_eq_true,decide_eq_true_eq] at this
 exact ⟨⟨this.1.1.1.1,this.1.1.1.2,this.1.1.2,this.1.2,this.2⟩,hk⟩
theorem WholeF.val {x m:Nat} (h:WholeF x m):zab x*unitW (zac x) 0=m*unitW 0 0:=by
 obtain ⟨-, -,a,b,c⟩:=h
 have e1:=zcq (a:= -60) (b:=0) (n:=(zac x+60).toNat) (by omega)
 have e2:=zcq (a:= -60) (b:=0) (n:=60) (by omega)
 rw [show -60+((zac x+60).toNat:Int)=zac x by omega] at e1
 rw [show (-60:Int)+((60:Nat):Int)=0 by decide] at e2
 rw [←e1,←e2,←Nat.mul_assoc,←Nat.mul_assoc,c]
theorem WholeF.m {x m:Nat} (h:WholeF x m):4503599627370496≤zab x∧zab x<9007199254740992:=by
 obtain ⟨a, -⟩:=h
 unfold zab
 rw [if_neg (by omega)]
 omega
theorem WholeF.one {x m:Nat} (h:WholeF x m):inF x (m*unitW 0 0)=true:=by
 rw [←h.val]
 obtain ⟨a,b,c, -⟩:=h
 have e3:zab x*unitW (zac x) 0=vF x:=by
  unfold vF kF
  rw [←zjg 2 4 rfl (a:=zac x-2) (b:=zac x) (by omega) (by omega)]
  ac_rfl
 obtain ⟨v1,v2⟩:=v_in (r:=x) (by omega) b
 rw [e3]
 exact zjn2 (by omega) (by omega) fun _=>⟨v1,v2⟩
section
variable {r x y m n:Nat}
theorem zeh2 (h1:0<r) (h2:r<9218868437227405312) (hx:WholeF x m) (hy:WholeF y n) (hin:inF r (m*n*unitW 0 0)=true):rungD (zab x*zab y) (zac x+zac y) false=r:=by
 have a:=hx.m
 have b:=hy.m
 refine zqt1 h1 h2 (Nat.ne_of_gt (Nat.mul_pos (by omega) (by omega))) (by have:=hx.2.2.1;have:=hy.2.2.1;omega) ?_
 rw [show zab x*zab y*unitW (zac x+zac y) 0=m*n*unitW 0 0 from ?_]
 ·exact hin
 obtain ⟨-, -,a1, -,c1⟩:=hx
 obtain ⟨-, -,a2, -,c2⟩:=hy
 have e1:=zcq (a:= -120) (b:=0) (n:=(zac x+60).toNat+(zac y+60).toNat) (by omega)
 have e2:=zcq (a:= -120) (b:=0) (n:=60+60) (by omega)
 rw [show -120+(((zac x+60).toNat+(zac y+60).toNat:Nat):Int)=zac x+zac y by omega,Nat.pow_add] at e1
 rw [show (-120:Int)+((60+60:Nat):Int)=0 by decide,Nat.pow_add] at e2
 rw [←e1,←e2]
 generalize unitW (-120) 0=U
 generalize 2^(zac x+60).toNat=p1 at*
 generalize 2^(zac y+60).toNat=p2 at*
 generalize (2:Nat)^60=s at*
 rw [show zab x*zab y*(p1*p2*U)=(zab x*p1)*(zab y*p2)*U by ac_rfl,c1,c2]
 ac_rfl
theorem zie1 {s:Bool} (h1:0<r) (h2:r<9218868437227405312) (hx:WholeF x m) (hy:WholeF y n) (hin:inF r (m*n*unitW 0 0)=true):mulD (sgn s+x) y=sgn s+r:=by
 have e:=zeh2 h1 h2 hx hy hin
 have a:=hx.m
 have b:=hy.m
 obtain ⟨x0,x1, -⟩:=hx
 obtain ⟨y0,y1, -⟩:=hy
 have hm:(sgn s+x)%9223372036854775808=x:=by unfold sgn;cases s<;>simp<;>omega
 have hn:negD (sgn s+x)=s:=by unfold negD sgn;cases s<;>simp<;>omega
 have hy2:y%9223372036854775808=y:=by omega
 have hny:negD y=false:=by unfold negD;rw [decide_eq_false (by omega)]
 have nx:¬zlv (sgn s+x)=true:=zor (by rw [hm];omega)
 have ny:¬zlv y=true:=zor (by rw [hy2];omega)
 unfold mulD
 dsimp only
 rw [hm,hy2,hn,hny,if_neg (fun h=>h.elim nx fun h=>h.elim ny fun h=>h.elim (fun h=>by omega) fun h=>by omega),if_neg (by omega)]
 unfold zhm
 rw [if_neg (Nat.ne_of_gt (Nat.mul_pos (by omega) (by omega))),Bool.xor_false,e]
theorem zwl1 {s:Bool} {k:Nat} (h1:0<r) (h2:r<9218868437227405312) (hx:WholeF x m) (hy:WholeF y (10^k)) (hk:k≤22) (hin:inF r (m*unitW 0 (-(k:Int)))=true):divD (sgn s+x) y=sgn s+r:=by
 have a:=hx.m
 have b:=hy.m
 obtain ⟨x0,x1,a1,b1,c1⟩:=hx
 obtain ⟨y0,y1,a2,b2,c2⟩:=hy
 have hm:(sgn s+x)%9223372036854775808=x:=by unfold sgn;cases s<;>simp<;>omega
 have hn:negD (sgn s+x)=s:=by unfold negD sgn;cases s<;>simp<;>omega
 have hy2:y%9223372036854775808=y:=by omega
 have hny:negD y=false:=by unfold negD;rw [decide_eq_false (by omega)]
 have nx:¬zlv (sgn s+x)=true:=zor (by rw [hm];omega)
 have ny:¬zlv y=true:=zor (by rw [hy2];omega)
 have key:zab x*2^128*unitW (zac x-zac y-128) 0=zab y*(m*unitW 0 (-(k:Int))):=by
  have e1:=zcq (a:=zac x-zac y-128) (b:=0) (n:=128) (by omega)
  rw [show zac x-zac y-128+((128:Nat):Int)=zac x-zac y by omega] at e1
  have e2:=zcq (a:=zac x-zac y) (b:=0) (n:=(zac y+60).toNat) (by omega)
  rw [show zac x-zac y+((zac y+60).toNat:Int)=zac x+60 by omega] at e2
  have e3:=zcq (a:=0) (b:=0) (n:=(zac x+60).toNat) (by omega)
  rw [show (0:Int)+((zac x+60).toNat:Int)=zac x+60 by omega] at e3
  have e4:=zhx (a:=0) (b:= -(k:Int)) (n:=k) (by omega)
  rw [show -(k:Int)+(k:Int)=0 by omega] at e4
  refine Nat.eq_of_mul_eq_mul_left (Nat.two_pow_pos (zac y+60).toNat) ?_
  rw [Nat.mul_assoc,e1]
  rw [show 2^(zac y+60).toNat*(zab x*unitW (zac x-zac y) 0)=zab x*(2^(zac y+60).toNat*unitW (zac x-zac y) 0) by ac_rfl,e2,←e3,←Nat.mul_assoc,c1]
  rw [show 2^(zac y+60).toNat*(zab y*(m*unitW 0 (-(k:Int))))=(zab y*2^(zac y+60).toNat)*(m*unitW 0 (-(k:Int))) by ac_rfl,c2,←e4]
  ac_rfl
 have hq:1152921504606846976≤zab x*2^128 / zab y:=by
  rw [Nat.le_div_iff_mul_le (by omega)]
  exact Nat.le_trans (Nat.mul_le_mul_left _ (Nat.le_of_lt b.2)) (Nat.le_trans (show (1152921504606846976:Nat)*9007199254740992≤4503599627370496*2^128 by decide) (Nat.mul_le_mul_right _ a.1))
 have hB:0<zab y:=by omega
 have hdm:=Nat.div_add_mod (zab x*2^128) (zab y)
 have hlt:=Nat.mod_lt (zab x*2^128) hB
 have e:rungD (zab x*2^128 / zab y) (zac x-zac y-128) (decide (0<zab x*2^128%zab y))=r:=by
  generalize zab x*2^128 / zab y=q at*
  generalize zab x*2^128%zab y=z at*
  generalize hX:m*unitW 0 (-(k:Int))=X at*
  have hU:=zby (zac x-zac y-128) 0
  rw [←hdm] at key
  by_cases hz:z=0
  ·rw [decide_eq_false (by omega)]
   refine zqt1 h1 h2 (by omega) (by omega) ?_
   rw [show q*unitW (zac x-zac y-128) 0=X from ?_]
   ·exact hin
   refine Nat.eq_of_mul_eq_mul_left hB ?_
   rw [←key,hz,Nat.add_zero,Nat.mul_assoc]
  ·rw [decide_eq_true (by omega)]
   refine zhv2 (X:=X) h1 h2 hq (by omega) ?_ ?_ hin
   ·refine Nat.lt_of_mul_lt_mul_left (a:=zab y) ?_
    rw [←key,Nat.add_mul,←Nat.mul_assoc]
    have:=Nat.mul_pos (show 0<z by omega) hU
    omega
   ·refine Nat.lt_of_mul_lt_mul_left (a:=zab y) ?_
    rw [←key,←Nat.mul_assoc,Nat.mul_add,Nat.mul_one]
    exact Nat.mul_lt_mul_of_pos_right (by omega) hU
 unfold divD
 dsimp only
 rw [hm,hy2,hn,hny,if_neg (fun h=>h.elim nx fun h=>h.elim ny fun h=>h.elim (fun h=>by omega) fun h=>by omega),if_neg (by omega),if_neg (by omega)]
 unfold zhm
 rw [if_neg (Nat.ne_of_gt (Nat.lt_of_lt_of_le (by decide) hq)),Bool.xor_false,e]
theorem zat2 (hx:WholeF x m) (hy:WholeF y n) (h0:0<m*n) (hle:m*n≤1000000000000000):∃z,WholeF z (m*n)∧∀s,mulD (sgn s+x) y=sgn s+z:=by
 have hz:=zfi1 h0 (by omega)
 exact ⟨_,hz,fun s=>zie1 (by have:=hz.1;omega) hz.2.1 hx hy hz.one⟩
theorem zau2 (hx:WholeF x m) (hy:WholeF y n) (hgt:1000000000000000<m*n):4831355200913801216<rungD (zab x*zab y) (zac x+zac y) false:=by
 have e:rungD 1000000000000001 0 false=4831355200913801224:=by decide+kernel
 have a:=hx.m
 have b:=hy.m
 obtain ⟨-, -,a1, -,c1⟩:=hx
 obtain ⟨-, -,a2, -,c2⟩:=hy
 have:=zac2 (m:=1000000000000001) (n:=zab x*zab y) (e:=0) (f:=zac x+zac y) (K:=0) (by decide) (Nat.ne_of_gt (Nat.mul_pos (by omega) (by omega))) (by omega) (by omega) (by
  obtain ⟨T,hT⟩:∃T:Nat,T=954:=⟨_,rfl⟩
  rw [show ((0:Int)+1074+((0:Nat):Int)).toNat=60+60+T by omega,show (zac x+zac y+1074+((0:Nat):Int)).toNat=(zac x+60).toNat+(zac y+60).toNat+T by omega,Nat.pow_add,Nat.pow_add,Nat.pow_add,Nat.pow_add]
  generalize 2^(zac x+60).toNat=p1 at*
  generalize 2^(zac y+60).toNat=p2 at*
  generalize (2:Nat)^60=s at*
  generalize (2:Nat)^T=t at*
  rw [show zab x*zab y*(p1*p2*t)=(zab x*p1)*(zab y*p2)*t by ac_rfl,c1,c2,show m*s*(n*s)*t=m*n*(s*s*t) by ac_rfl]
  exact Nat.mul_le_mul_right _ (by omega))
 omega
end
end Lf

namespace Lf
open Go Go.Proofs
theorem zif2 (a n:Nat):a&&&2^n=if a / 2^n%2=1 then 2^n else 0:=by
 refine Nat.eq_of_testBit_eq fun i=> ?_
 rw [Nat.testBit_and,Nat.testBit_two_pow]
 by_cases hi:n=i
 ·subst hi
  rw [decide_eq_true rfl,Bool.and_true,Nat.testBit_eq_decide_div_mod_eq]
  by_cases h:a / 2^n%2=1
  ·rw [if_pos h,decide_eq_true h];exact (Nat.testBit_two_pow_self (n:=n)).symm
  ·rw [if_neg h,decide_eq_false h,Nat.zero_testBit]
 ·rw [decide_eq_false hi,Bool.and_false]
  by_cases h:a / 2^n%2=1
  ·rw [if_pos h,Nat.testBit_two_pow,decide_eq_false hi]
  ·rw [if_neg h,Nat.zero_testBit]
theorem and52 {a:Nat} (ha:a<18446744073709551616):(bitsI .and .u64 (a:Int) (4503599627370496:Int)==0)=decide (a / 4503599627370496%2=0):=by
 unfold bitsI
 dsimp only
 rw [zsc,BitVec.toNat_and,zkx ha,show (BitVec.ofInt 64 4503599627370496).toNat=2^52 by decide,zif2]
 by_cases h:a / 2^52%2=1
 ·rw [if_pos h,decide_eq_false (by omega)];decide
 ·rw [if_neg h,decide_eq_true (by omega)];decide
theorem zei2 {s f:Nat} (hs:s=0∨s=9223372036854775808) (hf:f<4503599627370496):bitsI .andNot .u64 ((s+(4503599627370496+f):Nat):Int) (4503599627370496:Int)=((s+f:Nat):Int):=by
 unfold bitsI
 dsimp only
 have ha:s+(4503599627370496+f)<18446744073709551616:=by omega
 rw [zsc,BitVec.toNat_and,zkx ha,show (~~~ BitVec.ofInt 64 4503599627370496).toNat=2^53*(2^11-1)+(2^52-1) by decide]
 have key:(s+(4503599627370496+f))&&&(2^53*(2^11-1)+(2^52-1))=s+f:=by
  have h1:=Nat.and_div_two_pow (a:=s+(4503599627370496+f)) (b:=2^53*(2^11-1)+(2^52-1)) (n:=53)
  have h2:=Nat.and_mod_two_pow (a:=s+(4503599627370496+f)) (b:=2^53*(2^11-1)+(2^52-1)) (n:=53)
  rw [show (2^53*(2^11-1)+(2^52-1)) / 2^53=2^11-1 by decide,Nat.and_two_pow_sub_one_eq_mod] at h1
  rw [show (2^53*(2^11-1)+(2^52-1))%2^53=2^52-1 by decide,Nat.and_two_pow_sub_one_eq_mod] at h2
  generalize (s+(4503599627370496+f))&&&(2^53*(2^11-1)+(2^52-1))=z at*
  omega
 rw [key,zan]
 omega
theorem zqz1 (s:Int):∃n:Nat,n<64∧bitsI .and .i64 s (63:Int)=(n:Int):=by
 refine ⟨((BitVec.ofInt 64 s)&&&(BitVec.ofInt 64 63)).toNat,?_,?_⟩
 ·rw [BitVec.toNat_and,show (BitVec.ofInt 64 63).toNat=2^6-1 by decide,Nat.and_two_pow_sub_one_eq_mod]
  exact Nat.mod_lt _ (by decide)
 ·have:((BitVec.ofInt 64 s)&&&(BitVec.ofInt 64 63)).toNat<64:=by
   rw [BitVec.toNat_and,show (BitVec.ofInt 64 63).toNat=2^6-1 by decide,Nat.and_two_pow_sub_one_eq_mod]
   exact Nat.mod_lt _ (by decide)
  show IntKind.wrap .i64 ((((BitVec.ofInt 64 s)&&&(BitVec.ofInt 64 63)).toNat:Nat):Int)=_
  exact zae (by omega) (by omega)
section
variable {h:Hp}
theorem zcn1 {b:Nat} {x0 x1 x2:Value} {e p lp:Int} {Q:Hp→Prop} (k:Blk h b [x0,x1,x2]) (t:Pow10 h) (hb:b≠8) (h0: -348≤p) (h1:p≤347) (hl:lp=log2P p) (he: -5000≤e∧e≤5000)
  (hk:∀h',Mv [b] h [b] h'→Blk h' b [.int .u64 (hiP p:Int),.int .u64 (loP p:Int),.int .i64 (-(e+lp+3))]→Q h'):zbx Tryz.prog (some ⟨b,0,none⟩) e p lp Q h:=by
 unfold zbx
 have hlp: -1200≤lp∧lp≤1200:=by subst hl;unfold log2P;omega
 have e1:IntKind.wrap .i64 (p-(-348:Int))=p+348:=by rw [zae (by omega) (by omega)];omega
 have e2:IntKind.wrap .i64 ((0:Int)-(IntKind.wrap .i64 ((IntKind.wrap .i64 (e+lp))+(3:Int))))= -(e+lp+3):=by
  rw [zae (n:=e+lp) (by omega) (by omega),zae (n:=e+lp+3) (by omega) (by omega),zae (by omega) (by omega)]
  omega
 rw [e1,e2]
 obtain ⟨c1,c2⟩:=zde1 t h0 h1
 have a1:Addr.add (Addr.add ⟨8,0,none⟩ ((p+348).toNat*2)) 0=⟨8,(p+348).toNat*2,none⟩:=by rw [box_add,box_add];simp
 have a2:Addr.add (Addr.add ⟨8,0,none⟩ ((p+348).toNat*2)) 1=⟨8,(p+348).toNat*2+1,none⟩:=by rw [box_add,box_add];simp
 rw [a1,a2]
 refine ⟨⟨by omega,by omega⟩,ld_at (sh:=shInt .u64) (hiP p:Int) c1 (zag ?_)⟩
 refine put1 (i:=0) k (by simp) fun k1 m1 b1=> ?_
 have c2':=zzp1 c2 m1 (by simpa using Ne.symm hb)
 refine ⟨⟨by omega,by omega⟩,ld_at (sh:=shInt .u64) (loP p:Int) c2' (zag ?_)⟩
 refine put1 (i:=1) b1 (by simp) fun k2 m2 b2=> ?_
 refine zag (put1 (i:=2) b2 (by simp) fun k3 m3 b3=> ?_)
 exact hk k3 (m1.trans (m2.trans m3)) b3
theorem zwm1 {x hi lo b:Nat} {s:Int} {Q:Int→Hp→Prop} (hx:x<18446744073709551616) (hh:hi<18446744073709551616) (hl:lo<18446744073709551616)
  (k:Blk h b [.int .u64 (hi:Int),.int .u64 (lo:Int),.int .i64 s]) (hq:∀u:Nat,u<18446744073709551616→Q (u:Int) h):zcg Tryz.prog x (some ⟨b,0,none⟩) Q h:=by
 unfold zcg
 have fin:∀x:Int,(∃u:Nat,x=(u:Int)∧u<18446744073709551616)→Q x h:=fun x ⟨u,e,hu⟩=>e▸hq u hu
 refine zag (ld_at (sh:=shInt .u64) (hi:Int) (k.ldIs (off:=0) (n:=1) rfl) (zgm (zdd1 hx hh ?_)))
 refine zag (ld_at (sh:=shInt .i64) s (k.ldIs (off:=2) (n:=1) rfl) ?_)
 obtain ⟨n,hn,e⟩:=zqz1 s
 rw [e]
 refine ⟨by omega,by omega,iteB (fun _=>⟨by omega,fin _ (zbb _ _ _)⟩) fun _=> ?_⟩
 refine zag (ld_at (sh:=shInt .u64) (lo:Int) (k.ldIs (off:=1) (n:=1) rfl) (zgm (zdd1 hx hl ?_)))
 refine zao (zaq1 ⟨by omega,?_⟩)
 exact zao (zaq1 (fin _ (zbb _ _ _)))
theorem zgo {m:Int} {n:Nat} {K:Nat→Hp→Prop} (e:m=(n:Int)) (hn:n<18446744073709551616) (hk:K n h):SemE Tryz.prog (Extern.MathFloatBits.float64frombits #[(.int .u64 m)]) (shFlt .f64) K h:=by
 subst e
 refine ⟨n,?_,hk⟩
 show Value.float .f64 ((n:Int)).toNat=_
 rw [Int.toNat_natCast]
theorem zwn1 {m e:Int} {Q:Nat→Leaf→Hp→Prop} (hm:∃n:Nat,m=(n:Int)∧n<18446744073709551616) (hq:∀(f:Nat) (er:Leaf),(er.v=.nilIface∨er.v=.iface 122 (.int .i64 (1:Int)))→Q f er h):zci Tryz.prog m e Q h:=by
 unfold zci
 obtain ⟨n,rfl,hn⟩:=hm
 refine iteB (fun _=>zgo rfl hn ⟨⟨.nilIface,rfl⟩,rfl,hq _ _ (.inl rfl)⟩) fun _=>iteB (fun _=> ?_) fun _=>⟨by decide,?_⟩
 ·obtain ⟨u,e1,hu⟩:=zbb .or (bitsI .and .u64 (n:Int) (9223372036854775808:Int)) (9218868437227405312:Int)
  exact zgo e1 hu ⟨⟨.iface 122 (.int .i64 1),rfl⟩,rfl,hq _ _ (.inr rfl)⟩
 ·obtain ⟨u,e1,hu⟩:=zbb .or (bitsI .andNot .u64 (n:Int) (4503599627370496:Int)) (shlI .u64 (IntKind.wrap .u64 (IntKind.wrap .i64 ((1075:Int)+e))) (52:Int))
  exact zgo e1 hu ⟨⟨.nilIface,rfl⟩,rfl,hq _ _ (.inl rfl)⟩
theorem znn1 {r:Nat} {s:Bool} {Q:Nat→Leaf→Hp→Prop} (h1:0<r) (h2:r<9218868437227405312) (hq:∀er:Leaf,er.v=.nilIface→Q (sgn s+r) er h):zci Tryz.prog ((sgn s+zab r:Nat):Int) (zac r) Q h:=by
 unfold zci
 have hs:=znf1 s
 by_cases hr:r<4503599627370496
 ·have hM:zab r=r:=by unfold zab;rw [if_pos hr]
  rw [hM]
  refine iteT ?_ (zgo rfl (by omega) ⟨⟨.nilIface,rfl⟩,rfl,hq _ rfl⟩)
  rw [and52 (by omega)]
  exact decide_eq_true (by omega)
 ·have hM:zab r=4503599627370496+r%4503599627370496:=by unfold zab;rw [if_neg hr];omega
  have hE:zac r=((r / 4503599627370496:Nat):Int)-1075:=by unfold zac;rw [if_neg hr]
  rw [hM,hE]
  refine iteF ?_ (iteF (fun hh=>by have:=of_decide_eq_true hh;omega) ⟨by decide,?_⟩)
  ·rw [and52 (by omega)]
   intro hh
   have:=of_decide_eq_true hh
   omega
  ·have e1:IntKind.wrap .u64 (IntKind.wrap .i64 ((1075:Int)+(((r / 4503599627370496:Nat):Int)-1075)))=((r / 4503599627370496:Nat):Int):=by rw [zae (by omega) (by omega),zan];omega
   have e2:shlI .u64 ((r / 4503599627370496:Nat):Int) (52:Int)=((r / 4503599627370496*2^52:Nat):Int):=shlN (n:=52) (by decide) (by omega)
   rw [e1,e2,zei2 hs (Nat.mod_lt _ (by decide))]
   have e3:bitsI .or .u64 ((sgn s+r%4503599627370496:Nat):Int) ((r / 4503599627370496*2^52:Nat):Int)=((sgn s+r:Nat):Int):=by
    have a1:=zth1 (k:=.u64) (a:=r / 4503599627370496) (s:=52) (v:=r%4503599627370496) (.inl ⟨rfl,by omega⟩) (Nat.mod_lt _ (by decide))
    rw [show r / 4503599627370496*2^52+r%4503599627370496=r by omega] at a1
    have a2:=zqm1 (s:=s) (a:=r) (by omega)
    have a3:=zqm1 (s:=s) (a:=r%4503599627370496) (by omega)
    have f:∀ {x y:Nat},x<18446744073709551616→y<18446744073709551616→bitsI .or .u64 (x:Int) (y:Int)=((x ||| y:Nat):Int):=fun hx hy=>orN hx hy
    have a0:=Nat.div_mul_le_self r (2^52)
    rw [f (by omega) (by omega)] at a1 a2 a3 ⊢
    have b1:=Int.ofNat.inj a1
    have b2:=Int.ofNat.inj a2
    have b3:=Int.ofNat.inj a3
    rw [←b3,Nat.or_assoc,Nat.or_comm (r%4503599627370496),b1,b2]
   exact zgo e3 (by omega) ⟨⟨.nilIface,rfl⟩,rfl,hq _ rfl⟩
end
end Lf

namespace Lf
open Go Go.Proofs
theorem zjq2 (u:Nat):u ||| u%2=u:=by
 refine Nat.eq_of_testBit_eq fun i=> ?_
 rw [Nat.testBit_or]
 cases i with
 | zero=>simp
 | succ i=>
  rw [Nat.testBit_succ (u%2),show u%2 / 2=0 by omega,Nat.zero_testBit,Bool.or_false]
section
variable {h:Hp}
theorem and1 {u:Nat} (hu:u<18446744073709551616):bitsI .and .u64 (u:Int) (1:Int)=((u%2:Nat):Int):=by
 unfold bitsI
 dsimp only
 rw [zsc,BitVec.toNat_and,zkx hu,show (BitVec.ofInt 64 1).toNat=2^1-1 by decide,Nat.and_two_pow_sub_one_eq_mod,zan]
 omega
theorem zuf1 {Q:Int→Hp→Prop} (hq:Q 36028797018963966 h):zgz Tryz.prog (9007199254740992:Int) Q h:=by
 unfold zgz
 exact ⟨by decide,hq⟩
abbrev ErOk (er:Leaf):Prop:=er.v=.nilIface∨er.v=.iface 122 (.int .i64 (1:Int))
theorem zjr2 {d:Nat} (hd:d<18446744073709551616):bitsN d≤64:=ztj1 (by omega)
theorem zfk1 {d sg:Nat} {p:Int} {Q:Nat→Leaf→Hp→Prop} (t:Pow10 h) (hd:d<18446744073709551616) (hsg:sg<18446744073709551616) (h0: -348≤p) (h1:p≤347) (hq:∀(f:Nat) (er:Leaf) h',h≤h'→ErOk er→Q f er h'):
  zbj Tryz.prog (d:Int) p (sg:Int) Q h:=by
 have hb:=zjr2 hd
 have hl: -1200≤log2P p∧log2P p≤1200:=by unfold log2P;omega
 unfold zbj
 refine zgn (zdh1 hd ?_)
 refine zdq (zqn1 (by omega) (by omega) ?_)
 intro b ty hbn
 have hle:=ziv (o:=.cells [Value.int .u64 (0:Int),.int .u64 (0:Int),.int .i64 (0:Int)].toArray ty (0,0)) hbn
 have kb:Blk (h.set b (.cells [Value.int .u64 (0:Int),.int .u64 (0:Int),.int .i64 (0:Int)].toArray ty (0,0))) b [.int .u64 (0:Int),.int .u64 (0:Int),.int .i64 (0:Int)]:=⟨ty,zec⟩
 generalize h.set b (.cells [Value.int .u64 (0:Int),.int .u64 (0:Int),.int .i64 (0:Int)].toArray ty (0,0))=k1 at*
 have hbg:b≠8:=fun e=>by
  obtain ⟨c1, -⟩:=zde1 t h0 h1
  have:=c1 0 _ rfl
  rw [box_add] at this
  unfold hcell at this
  rw [←e,hbn] at this
  simp at this
 have back:∀ {k':Hp},Mv [b] k1 [b] k'→h≤k':=fun mv c o hc=>mv.keep c o (hle c o hc) (by simp only [List.mem_singleton];intro e;rw [e,hbn] at hc;cases hc)
 have emin:IntKind.wrap .i64 ((IntKind.wrap .i64 ((53:Int)-(bitsN d:Int)))-log2P p)=53-(bitsN d:Int)-log2P p:=by rw [zae (n:=(53:Int)-_) (by omega) (by omega),zae (by omega) (by omega)]
 have e64:IntKind.wrap .i64 ((64:Int)-(bitsN d:Int))=((64-bitsN d:Nat):Int):=by rw [zae (by omega) (by omega)];omega
 rw [emin,e64]
 obtain ⟨E,hE⟩:∃E,E=min2I (1074:Int) (53-(bitsN d:Int)-log2P p):=⟨_,rfl⟩
 have hEb: -3000≤E∧E≤1074:=by rw [hE];unfold min2I;split<;>omega
 rw [←hE,zae (n:=E-((64-bitsN d:Nat):Int)) (by omega) (by omega)]
 refine zea (zcn1 kb (fun i v hv=>zxr hle (t i v hv)) hbg h0 h1 rfl (by omega) fun k2 m2 b2=> ?_)
 refine ld_at (sh:=shInt .i64) (-(E-((64-bitsN d:Nat):Int)+log2P p+3)) ?_ ?_
 ·rw [box_add]
  exact b2.ldIs (off:=2) (n:=1) rfl
 have fb:∀ {x:Int} {K:Nat→Hp→Prop} {k:Hp},(∃n:Nat,x=(n:Int)∧n<18446744073709551616)→(∀f,K f k)→SemE Tryz.prog (Extern.MathFloatBits.float64frombits #[(.int .u64 x)]) (shFlt .f64) K k:=fun ⟨n,e,hn⟩ hK=>zgo e hn (hK _)
 refine iteB (fun _=>fb (zbb _ _ _) fun f=>⟨⟨.nilIface,rfl⟩,rfl,hq f _ k2 (back m2) (.inl rfl)⟩) fun _=>⟨by omega,?_⟩
 obtain ⟨x,ex,hx⟩:∃x:Nat,shlI .u64 (d:Int) ((64-bitsN d:Nat):Int)=(x:Int)∧x<18446744073709551616:=by
  refine ⟨(shlI .u64 (d:Int) ((64-bitsN d:Nat):Int)).toNat,?_,?_⟩<;>(unfold shlI;rw [zan];omega)
 rw [ex]
 obtain ⟨t1,t2,t3⟩:=zhv1 h0 h1
 refine zfc (zwm1 hx t2 t3 b2 fun u hu=> ?_)
 refine zje (zuf1 ?_)
 refine zdp (zkg1 ⟨by omega,?_⟩)
 obtain ⟨v,ev,hv⟩:=zbb .or (shrI .u64 (u:Int) (((decide ((u:Int)≥36028797018963966)).toNat:Nat):Int)) (bitsI .and .u64 (u:Int) (1:Int))
 rw [ev]
 refine zbf (zdf1 hv ?_)
 exact zfd (zwn1 (zbb _ _ _) fun f er he=>⟨er,rfl,hq f er k2 (back m2) he⟩)
theorem zwo1 {r d:Nat} {s:Bool} {p:Int} {Q:Nat→Leaf→Hp→Prop} (t:Pow10 h) (h1:0<r) (h2:r<9218868437227405312) (hd:d<144115188075855872) (d0:0<d) (p0: -348≤p) (p1:p≤347) (hin:inF r (d*unitW 0 p)=true)
  (hq:∀(er:Leaf) h',h≤h'→er.v=.nilIface→Q (sgn s+r) er h'):zbj Tryz.prog (d:Int) p ((sgn s:Nat):Int) Q h:=by
 have hb:bitsN d≤57:=ztj1 (by omega)
 have hb1:1≤bitsN d:=by unfold bitsN;rw [if_neg (by omega)];omega
 have hlo:=zvm (m:=d) (by omega)
 have hhi:=zqj d
 obtain ⟨rs,rm,rx⟩:=zhp2 h1 h2 p0 p1 hb hb1 hlo hhi hin
 obtain ⟨s8,sc⟩:=zwg1 p0 p1 hb hlo hhi hb1 rs
 have hl: -1200≤log2P p∧log2P p≤1200:=by unfold log2P;omega
 have hE:readE (bitsN d) p=min2I (1074:Int) (53-(bitsN d:Int)-log2P p):=by unfold readE min2I;omega
 have hEb: -3000≤readE (bitsN d) p∧readE (bitsN d) p≤1074:=by unfold readE;omega
 unfold zbj
 refine zgn (zdh1 (by omega) ?_)
 refine zdq (zqn1 (by omega) (by omega) ?_)
 intro b ty hbn
 have hle:=ziv (o:=.cells [Value.int .u64 (0:Int),.int .u64 (0:Int),.int .i64 (0:Int)].toArray ty (0,0)) hbn
 have kb:Blk (h.set b (.cells [Value.int .u64 (0:Int),.int .u64 (0:Int),.int .i64 (0:Int)].toArray ty (0,0))) b [.int .u64 (0:Int),.int .u64 (0:Int),.int .i64 (0:Int)]:=⟨ty,zec⟩
 generalize h.set b (.cells [Value.int .u64 (0:Int),.int .u64 (0:Int),.int .i64 (0:Int)].toArray ty (0,0))=k1 at*
 have hbg:b≠8:=fun e=>by
  obtain ⟨c1, -⟩:=zde1 t p0 p1
  have:=c1 0 _ rfl
  rw [box_add] at this
  unfold hcell at this
  rw [←e,hbn] at this
  simp at this
 have back:∀ {k':Hp},Mv [b] k1 [b] k'→h≤k':=fun mv c o hc=>mv.keep c o (hle c o hc) (by simp only [List.mem_singleton];intro e;rw [e,hbn] at hc;cases hc)
 have emin:IntKind.wrap .i64 ((IntKind.wrap .i64 ((53:Int)-(bitsN d:Int)))-log2P p)=53-(bitsN d:Int)-log2P p:=by rw [zae (n:=(53:Int)-_) (by omega) (by omega),zae (by omega) (by omega)]
 have e64:IntKind.wrap .i64 ((64:Int)-(bitsN d:Int))=((64-bitsN d:Nat):Int):=by rw [zae (by omega) (by omega)];omega
 rw [emin,e64,←hE,zae (n:=readE (bitsN d) p-((64-bitsN d:Nat):Int)) (by omega) (by omega)]
 have hS: -(readE (bitsN d) p-((64-bitsN d:Nat):Int)+log2P p+3)=readS (bitsN d) p:=by unfold readS;omega
 refine zea (zcn1 kb (fun i v hv=>zxr hle (t i v hv)) hbg p0 p1 rfl (by omega) fun k2 m2 b2=> ?_)
 rw [hS] at b2
 refine ld_at (sh:=shInt .i64) (readS (bitsN d) p) ?_ (iteF (fun hh=>by have h9:readS (bitsN d) p≥64:=of_decide_eq_true hh;omega) ⟨by omega,?_⟩)
 ·rw [box_add]
  exact b2.ldIs (off:=2) (n:=1) rfl
 obtain ⟨j,hj⟩:∃j,64=bitsN d+j:=⟨64-bitsN d,by omega⟩
 have ej:64-bitsN d=j:=by omega
 have hx:d*2^j<18446744073709551616:=by
  have:=Nat.mul_lt_mul_of_pos_right hhi (Nat.two_pow_pos j)
  rw [←Nat.pow_add,←hj] at this
  exact this
 have hx0:2305843009213693952≤d*2^j:=by
  have:=Nat.mul_le_mul_right (2^j) hlo
  rw [←Nat.pow_add,show bitsN d-1+j=63 by omega] at this
  exact Nat.le_trans (by decide) this
 rw [ej] at sc ⊢
 rw [shlN (by omega) hx]
 obtain ⟨t1,t2,t3⟩:=zhv1 p0 p1
 have b3:Scl k2 b (hiP p) (loP p) (readS (bitsN d) p).toNat:=by
  unfold Scl
  rw [show (((readS (bitsN d) p).toNat:Nat):Int)=readS (bitsN d) p by omega]
  exact b2
 refine zfc (zmq1 hx t2 t3 (by omega) (zdg1 hx0 t1) b3 ?_)
 have hu:=zhx1 (lo:=loP p) (s:=(readS (bitsN d) p).toNat) hx t2
 rw [←sc] at rm rx
 generalize ztl (d*2^j) (hiP p) (loP p) (readS (bitsN d) p).toNat=u at*
 refine zje (zuf1 ?_)
 refine zdp (zkg1 ⟨by omega,?_⟩)
 rw [and1 hu]
 have hpr:∀k,h≤k→(∀(er:Leaf),er.v=.nilIface→EncW zah er.v fun e=>Q (sgn s+r) e k):=fun k hl er he=>⟨er,rfl,hq er k hl he⟩
 have hMb:zab r<9007199254740992:=by unfold zab;split<;>omega
 have fin:bitsI .or .u64 ((sgn s:Nat):Int) ((zab r:Nat):Int)=((sgn s+zab r:Nat):Int):=zqm1 (by omega)
 unfold readM at rm
 unfold readX at rx
 by_cases c:36028797018963966≤u
 ·rw [if_pos c] at rm rx
  rw [decide_eq_true (show (u:Int)≥36028797018963966 by omega)]
  have e1:shrI .u64 (u:Int) (((true.toNat:Nat):Int))=((u / 2:Nat):Int):=shrN u (n:=1) (by decide)
  rw [e1,orN (Nat.lt_of_le_of_lt (Nat.div_le_self _ _) hu) (by omega)]
  refine zbf (zdf1 (Nat.or_lt_two_pow (n:=64) (Nat.lt_of_le_of_lt (Nat.div_le_self _ _) hu) (by omega)) ?_)
  rw [rm,fin,show (((true.toNat:Nat):Int))=1 from rfl,zae (n:=readE (bitsN d) p-1) (by omega) (by omega),zae (by omega) (by omega),show (0:Int)-(readE (bitsN d) p-1)=zac r by omega]
  exact zfd (znn1 h1 h2 fun er he=>hpr k2 (back m2) er he)
 ·rw [if_neg c] at rm rx
  rw [decide_eq_false (show ¬(u:Int)≥36028797018963966 by omega)]
  have e1:shrI .u64 (u:Int) (((false.toNat:Nat):Int))=(u:Int):=by
   have:=shrN u (n:=0) (by decide)
   rw [Nat.pow_zero,Nat.div_one] at this
   exact this
  rw [e1,orN hu (by omega),zjq2]
  refine zbf (zdf1 hu ?_)
  rw [rm,fin,show (((false.toNat:Nat):Int))=0 from rfl,zae (n:=readE (bitsN d) p-0) (by omega) (by omega),zae (by omega) (by omega),show (0:Int)-(readE (bitsN d) p-0)=zac r by omega]
  exact zfd (znn1 h1 h2 fun er he=>hpr k2 (back m2) er he)
end
end Lf

namespace Lf
open Go Go.Proofs
theorem zav2 {o:Option Nat} {v:Nat} (h:outD o=v) (hn:¬9218868437227405312<v%9223372036854775808):o=some v:=by
 cases o with
 | some x=>exact congrArg some h
 | none=>
  have:9221120237041090560=v:=h
  exact absurd (by rw [←this];decide) hn
theorem zkq1 {a b v:Nat} (ha:a<18446744073709551616) (hb:b<18446744073709551616) (hv:mulD a b=v) (hn:¬9218868437227405312<v%9223372036854775808):f64.format.mul a b=some v:=
 zav2 ((zjc2 ha hb).1.trans hv) hn
theorem zej2 {a b v:Nat} (ha:a<18446744073709551616) (hb:b<18446744073709551616) (hv:divD a b=v) (hn:¬9218868437227405312<v%9223372036854775808):f64.format.div a b=some v:=
 zav2 ((zjd2 ha hb).1.trans hv) hn
theorem zek2 {s:Bool} {x y m n:Nat} (hx:WholeF x m) (hy:WholeF y n):mulD (sgn s+x) y=sgn s+rungD (zab x*zab y) (zac x+zac y) false:=by
 have a:=hx.m
 have b:=hy.m
 obtain ⟨x0,x1, -⟩:=hx
 obtain ⟨y0,y1, -⟩:=hy
 have hm:(sgn s+x)%9223372036854775808=x:=by unfold sgn;cases s<;>simp<;>omega
 have hn:negD (sgn s+x)=s:=by unfold negD sgn;cases s<;>simp<;>omega
 have hy2:y%9223372036854775808=y:=by omega
 have hny:negD y=false:=by unfold negD;rw [decide_eq_false (by omega)]
 have nx:¬zlv (sgn s+x)=true:=zor (by rw [hm];omega)
 have ny:¬zlv y=true:=zor (by rw [hy2];omega)
 unfold mulD
 dsimp only
 rw [hm,hy2,hn,hny,if_neg (fun h=>h.elim nx fun h=>h.elim ny fun h=>h.elim (fun h=>by omega) fun h=>by omega),if_neg (by omega)]
 unfold zhm
 rw [if_neg (Nat.ne_of_gt (Nat.mul_pos (by omega) (by omega))),Bool.xor_false]
theorem zra1 {x:Nat} (hx:x<9223372036854775808):Op.negFloat .f64 x=9223372036854775808+x:=by
 show x^^^2^63=_
 have h1:x^^^2^63=x ||| 2^63:=by
  refine Nat.eq_of_testBit_eq fun i=> ?_
  rw [Nat.testBit_xor,Nat.testBit_or,Nat.testBit_two_pow]
  by_cases hi:63=i
  ·subst hi
   rw [Nat.testBit_lt_two_pow (by omega)];rfl
  ·rw [decide_eq_false hi,Bool.xor_false,Bool.or_false]
 rw [h1,Nat.or_comm]
 have:=Nat.shiftLeft_add_eq_or_of_lt (b:=x) (i:=63) (by omega) 1
 rw [Nat.shiftLeft_eq,Nat.one_mul] at this
 rw [←this]
section
variable {h:Hp}
theorem zgd2 {c:Option Bool} {P:Program} {s:Sem Value} {sh:Shape} {v:sh.T} {K:sh.T→Prop} (he:s=Sem.pure (sh.enc v)) (hk:K v):SemV c P s sh h K:=by
 obtain ⟨x,hx,hk⟩:=zhy (P:=P) (h:=h) he hk
 refine ⟨x,?_,hk⟩
 cases c with
 | none=>exact hx
 | some b=>exact fun _=>hx
theorem zfl1 (env:FEnv h) {i:Int} {K:Nat→Prop} (i0:0≤i) (i1:i<23) (hk:∀x,pow10F[i.toNat]? =some x→K x):
  LdW none shSl h ⟨12,0,none⟩ fun y=>(InB y.base y.len i)∧LdW none (shFlt .f64) h (sat y.base 1 i) K:=by
 obtain ⟨a,c,e1,e2⟩:=env.f10
 obtain ⟨j,rfl⟩:=Int.eq_ofNat_of_zero_le i0
 have hlen:pow10F.length=23:=rfl
 obtain ⟨x,hx⟩:∃x,pow10F[j]? =some x:=⟨pow10F[j]'(by omega),List.getElem?_eq_getElem (by omega)⟩
 refine ld_at (sh:=shSl) ⟨some a,23,c⟩ e1 ⟨⟨by simp,by omega,by show (j:Int)<23;omega⟩,ld_at (sh:=shFlt .f64) x ?_ (hk x (by rw [Int.toNat_natCast];exact hx))⟩
 show LdIs h (Addr.add a (Int.toNat (j:Int)*1)) [.float .f64 x]
 rw [Int.toNat_natCast,Nat.mul_one]
 exact zsd (e2 j _ (by rw [List.getElem?_map,hx];rfl))
theorem zfm1 :∀x∈pow10F,x<9218868437227405312:=by decide
theorem zug1 {m r:Nat} {p:Int} {neg:Bool} {Q:Nat→Bool→Hp→Prop} (env:FEnv h) (hm0:0<m) (hm:m<18446744073709551616) (hp0: -400≤p) (hp1:p≤400)
  (hq:∀f ok,(0<r→r<9218868437227405312→inF r (m*unitW 0 p)=true→ok=true→f=sgn neg+r)→Q f ok h):zdz Tryz.prog (m:Int) p neg Q h:=by
 have no:∀f,Q f false h:=fun f=>hq f false fun _ _ _ e=>by cases e
 unfold zdz
 have ea:Addr.add ⟨7,0,none⟩ 0=(⟨7,0,none⟩:Addr):=by rw [box_add]
 rw [ea]
 refine ld_at (sh:=shInt .u64) (52:Int) env.info ⟨by decide,?_⟩
 have e0:shrI .u64 (m:Int) (52:Int)=((m / 2^52:Nat):Int):=shrN m (n:=52) (by decide)
 rw [e0]
 refine iteB (fun _=>no 0) fun hz=> ?_
 have hm52:m<4503599627370496:=by
  refine Classical.byContradiction fun hn=>hz (bne_iff_ne.2 ?_)
  omega
 have hx:=zfi1 hm0 (show m<9007199254740992 by omega)
 have hf:f64.nearest (m:Int)=rungD m 0 false:=by
  rw [zdn2]
  unfold ztg1
  rw [show ((m:Int)).natAbs=m by omega,decide_eq_false (by omega)]
  unfold zhm
  rw [if_neg (by omega)]
  show 0+_=_
  omega
 generalize hX:rungD m 0 false=x at*
 refine ⟨x,by rw [←hf];exact zid2,?_⟩
 obtain ⟨x0,x1, -⟩:=id hx
 have hs:=znf1 neg
 refine JoinW1.intro (fun f k=>k=h∧f=sgn neg+x) ?_ ?_
 ·cases neg with
  | true=>exact iteT rfl ⟨rfl,zra1 (by omega)⟩
  | false=>exact iteF (by decide) ⟨rfl,by show x=0+x;omega⟩
 rintro _ h ⟨rfl,rfl⟩
 refine iteB (fun hp=> ?_) fun hpn=>letW (iteB (fun hy=> ?_) fun hyn=>letW (iteB (fun hy=> ?_) fun _=>no _))
 ·have hp:p=0:=beq_iff_eq.1 hp
  subst hp
  exact hq _ _ fun h1 h2 hin _=>by rw [zae2 (by omega) h1 hx.one hin]
 ·rw [Bool.and_eq_true] at hy
  have y1:=of_decide_eq_true hy.1
  have y2:=of_decide_eq_true hy.2
  refine JoinW2.intro (fun e f k=>k=h∧0<e∧e≤22∧∃z,f=sgn neg+z∧((∃M,0<M∧WholeF z M∧m*unitW 0 p=M*10^e.toNat*unitW 0 0)∨(4831355200913801216<z∧z≤9218868437227405312))) ?_ ?_
  ·refine iteB (fun h22=> ?_) fun h22=> ?_
   ·have h22:=of_decide_eq_true h22
    rw [zae (by omega) (by omega)]
    have hpw:=zfl1 env (i:=p-22) (by omega) (by omega) (K:=fun x3=>SemE Tryz.prog (binS .mul 48 (.tmp 31) (.tmp 36) (.float .f64 (sgn neg+x)) (.float .f64 x3)) (shFlt .f64) (fun r h2=>(fun e f k=>k=h∧0<e∧e≤22∧∃z,f=sgn neg+z∧((∃M,0<M∧WholeF z M∧m*unitW 0 p=M*10^e.toNat*unitW 0 0)∨(4831355200913801216<z∧z≤9218868437227405312))) (22:Int) r h2) h) ?_
    ·exact hpw
    intro y hy
    obtain ⟨hyw,hk⟩:=zfj1 hy
    have hyl:=zfm1 y (List.mem_of_getElem? hy)
    have hprod:0<m*10^(p-22).toNat:=Nat.mul_pos hm0 (Nat.pow_pos (by decide))
    have hval:m*unitW 0 p=m*10^(p-22).toNat*10^(22:Int).toNat*unitW 0 0:=by
     have e:=zhx (a:=0) (b:=0) (n:=(p-22).toNat+22) (by omega)
     rw [show (0:Int)+(((p-22).toNat+22:Nat):Int)=p by omega] at e
     rw [←e,Nat.pow_add,←Nat.mul_assoc,←Nat.mul_assoc];rfl
    by_cases hle:m*10^(p-22).toNat≤1000000000000000
    ·obtain ⟨z,hz1,hz2⟩:=zat2 hx hyw hprod hle
     refine zxu zqr1 fun g g1 _=>⟨rfl,by decide,by decide,z,g1 _ (zkq1 (by omega) (by omega) (hz2 neg) ?_),.inl ⟨_,hprod,hz1,hval⟩⟩
     have:=hz1.2.1
     omega
    ·have hg:=zau2 hx hyw (by omega)
     have hr:=zdc1 (m:=zab x*zab y) (e:=zac x+zac y) (b:=false)
     refine zxu zqr1 fun g g1 _=>⟨rfl,by decide,by decide,_,g1 _ (zkq1 (by omega) (by omega) (zek2 hx hyw) (by omega)),.inr ⟨hg,hr⟩⟩
   ·have h22:¬p>22:=fun e=>h22 (decide_eq_true e)
    refine ⟨rfl,y1,by omega,x,rfl,.inl ⟨m,hm0,hx,?_⟩⟩
    have e:=zhx (a:=0) (b:=0) (n:=p.toNat) (by omega)
    rw [show (0:Int)+(p.toNat:Int)=p by omega] at e
    rw [←e,←Nat.mul_assoc]
  rintro e _ h ⟨rfl,e0,e1,z,rfl,hz⟩
  have hzb:z≤9218868437227405312:=by
   rcases hz with ⟨M, -,hz, -⟩ | hz
   ·have:=hz.2.1;omega
   ·exact hz.2
  have o1:=zvk (a:=sgn neg+z) (b:=4831355200913801216) (by omega) (by omega) (by omega) (by omega)
  have o2:=zvk (a:=sgn neg+z) (b:=14054727237768577024) (by omega) (by omega) (by omega) (by omega)
  have r1:rzD 4831355200913801216=4831355200913801216:=by unfold rzD negD;rw [decide_eq_false (by omega)];decide
  have r2:rzD 14054727237768577024= -4831355200913801216:=by unfold rzD negD;rw [decide_eq_true (by omega)];decide
  refine zhy (sh:=zad) (v:=f64.format.order (sgn neg+z) 4831355200913801216==some .gt) rfl ?_
  refine zgd2 (sh:=zad) (v:=f64.format.order (sgn neg+z) 14054727237768577024==some .lt) rfl (letW ?_)
  refine iteB (fun _=>no _) fun hnot=> ?_
  rcases hz with ⟨M,M0,hzw,hval⟩ | ⟨hz1,hz2⟩
  ·have hpw:=zfl1 env (i:=e) (by omega) (by omega) (K:=fun x5=>SemE Tryz.prog (binS .mul 48 (.tmp 44) (.tmp 48) (.float .f64 (sgn neg+z)) (.float .f64 x5)) (shFlt .f64) (fun r h3=>Q r true h3) h) ?_
   ·exact hpw
   intro y hy
   obtain ⟨hyw,hk⟩:=zfj1 hy
   have hyl:=zfm1 y (List.mem_of_getElem? hy)
   refine zxu zqr1 fun g g1 _=>hq _ _ fun h1 h2 hin _=> ?_
   rw [hval] at hin
   exact g1 _ (zkq1 (by omega) (by omega) (zie1 h1 h2 hzw hyw hin) (by omega))
  ·exfalso
   refine hnot ?_
   have hzr:rzD (sgn neg+z)=if neg then -(z:Int) else (z:Int):=by
    unfold rzD negD
    cases neg with
    | true=>rw [show sgn true=9223372036854775808 from rfl,decide_eq_true (by omega),show (9223372036854775808+z)%9223372036854775808=z by omega]
    | false=>rw [show sgn false=0 from rfl,decide_eq_false (by omega),show (0+z)%9223372036854775808=z by omega]
   rw [Bool.or_eq_true]
   cases neg with
   | true=>
    right
    show (dbl.order _ _==some .lt)=true
    rw [o2,hzr,r2,if_pos rfl,show compare (-(z:Int)) (-4831355200913801216)=.lt by rw [Int.compare_eq_lt];omega];rfl
   | false=>
    left
    show (dbl.order _ _==some .gt)=true
    rw [o1,hzr,r1,if_neg (by decide),show compare (z:Int) 4831355200913801216=.gt by rw [Int.compare_eq_gt];omega];rfl
 ·rw [Bool.and_eq_true] at hy
  have y1:=of_decide_eq_true hy.1
  have y2:=of_decide_eq_true hy.2
  rw [zae (by omega) (by omega)]
  have hpw:=zfl1 env (i:=(0:Int)-p) (by omega) (by omega) (K:=fun x3=>SemE Tryz.prog (binS .quo 48 (.tmp 57) (.tmp 62) (.float .f64 (sgn neg+x)) (.float .f64 x3)) (shFlt .f64) (fun r h2=>Q r true h2) h) ?_
  ·exact hpw
  intro y hy
  obtain ⟨hyw,hk⟩:=zfj1 hy
  have hyl:=zfm1 y (List.mem_of_getElem? hy)
  refine zxu zhh2 fun g g1 _=>hq _ _ fun h1 h2 hin _=> ?_
  exact g1 _ (zej2 (by omega) (by omega) (zwl1 h1 h2 hx hyw (by omega) (by rw [show -((((0:Int)-p).toNat:Nat):Int)=p by omega];exact hin)) (by omega))
end
end Lf

namespace Lf
open Go Go.Proofs
abbrev U64 (x:Int):Prop:=∃n:Nat,x=(n:Int)∧n<18446744073709551616
theorem zql (x:Int):U64 (IntKind.wrap .u64 x):=⟨(IntKind.wrap .u64 x).toNat,by rw [zan];omega,by rw [zan];omega⟩
section
variable {h:Hp}
theorem lowE {b:Bool} {c:Int} {K:Int→Hp→Prop} (hk:∀x,K x h):EffC (some b) (CallT Tryz.prog zaf [(.int .u8 c)] (shInt .u8)) K h:=
 ⟨fun _=>zat (zsf (hk _)),fun _=>⟨(0:Int),hk 0⟩⟩
theorem lowC {c:Int} {K:Int→Hp→Prop} (hk:∀x,K x h):CallT Tryz.prog zaf [(.int .u8 c)] (shInt .u8) K h:=zat (zsf (hk _))
theorem zgp1 {s:ByteArray} {Q:Bool→Hp→Prop} (hs:s.size<4611686018427387904) (hq:∀b,Q b h):zdm Tryz.prog s Q h:=by
 unfold zdm
 refine JoinW1.intro (fun s k=>k=h∧s.size<4611686018427387904) ⟨fun hh=>⟨by decide,by have:=of_decide_eq_true hh;omega⟩,fun hh=>⟨by decide,by rw [Bool.and_eq_true] at hh;have:=of_decide_eq_true hh.1;omega⟩,letW (letW (iteB (fun hy=> ?_) fun _=>⟨rfl,hs⟩))⟩ ?_
 ·rw [Bool.and_eq_true] at hy
  have:=of_decide_eq_true hy.1
  refine ⟨⟨by decide,by omega⟩,rfl,?_⟩
  rw [ByteArray.size_extract]
  omega
 clear hs s
 rintro s h ⟨rfl,hs⟩
 refine JoinW3.intro (fun _ i _ k=>k=h∧0≤i∧i≤(s.size:Int)) ?_ ?_
 ·refine ⟨fun hh=>⟨by decide,by have:=of_decide_eq_true hh;omega⟩,letW ?_⟩
  generalize hy:((decide ((((ByteArray.size s):Nat):Int)≥(2:Int)))&&((((UInt8.toNat (List.getD s.data.toList 0 0)):Nat):Int)==(48:Int)))=y
  have hy2:y=true→(2:Int)≤(s.size:Int):=fun e=>by
   rw [e,Bool.and_eq_true] at hy
   exact of_decide_eq_true hy.1
  refine ⟨fun e=>⟨by decide,by have:=hy2 e;omega⟩,lowE fun r=>⟨fun e=> ?_,lowE fun r1=>letW ⟨fun e=> ?_,lowE fun r2=>letW (letW (iteB (fun e=> ?_) fun _=>⟨rfl,by omega,by omega⟩))⟩⟩⟩
  ·rw [Bool.and_eq_true] at e;exact ⟨by decide,by have:=hy2 e.1;omega⟩
  ·rw [Bool.and_eq_true] at e;exact ⟨by decide,by have:=hy2 e.1;omega⟩
  ·rw [Bool.and_eq_true] at e
   have:=hy2 e.1
   exact ⟨⟨by decide,by omega⟩,lowC fun _=>⟨rfl,by omega,this⟩⟩
 rintro saw i hex h ⟨rfl,i0,i1⟩
 refine LoopW2.intro (fun _ i k=>k=h∧0≤i∧i≤(s.size:Int)) (fun _ i _=>(s.size-i).toNat) ⟨rfl,i0,i1⟩ ?_
 clear i0 i1 saw i
 rintro saw i h ⟨rfl,i0,i1⟩
 refine iteB (fun hi=> ?_) fun _=> ?_
 ·have hi:=of_decide_eq_true hi
  have key:∀v:Int,(h=h∧0≤IntKind.wrap .i64 (i+1)∧IntKind.wrap .i64 (i+1)≤(s.size:Int))∧(s.size-IntKind.wrap .i64 (i+1)).toNat<(s.size-i).toNat:=fun _=>by
   rw [zae (by omega) (by omega)]
   exact ⟨⟨rfl,by omega,by omega⟩,by omega⟩
  refine JoinW1.intro (fun _ k=>k=h) ?_ fun v k hk=>by rw [hk];exact key v
  refine ⟨⟨i0,hi⟩,fun _=>⟨i0,hi⟩,letW ⟨fun _=>⟨i0,hi⟩,lowE fun r=>letW ⟨fun _=>⟨i0,hi⟩,lowE fun r1=>letW (letW (iteB (fun _=>rfl) fun _=>⟨⟨i0,hi⟩,?_⟩))⟩⟩⟩
  exact iteB (fun _=>iteB (fun _=>hq _) fun _=>rfl) fun _=>iteB (fun _=>hq _) fun _=>rfl
 ·exact hq _
theorem zkr1 {s:ByteArray} {Q:Int→Int→Bool→Bool→Bool→Int→Bool→Hp→Prop} (hs:s.size<4611686018427387904) (hq:∀(m:Nat) e neg tr hex i ok,m<18446744073709551616→(ok=true→0≤i∧i≤(s.size:Int))→Q (m:Int) e neg tr hex i ok h):zaw Tryz.prog s Q h:=by
 unfold zaw
 have no:∀(m e:Int) neg tr hex i,U64 m→Q m e neg tr hex i false h:=fun m e neg tr hex i ⟨n,en,hn⟩=>en▸hq n e neg tr hex i false hn fun e=>by cases e
 generalize hN:s.size=N at*
 refine iteB (fun _=>no _ _ _ _ _ _ ⟨0,rfl,by decide⟩) fun hN0=> ?_
 have hN0:¬(0:Int)≥(N:Int):=fun e=>hN0 (decide_eq_true e)
 refine ⟨⟨by decide,by omega⟩,JoinW2.intro (fun _ i k=>k=h∧0≤i∧i≤(N:Int)) (iteB (fun _=>⟨rfl,by omega,by omega⟩) fun _=>iteB (fun _=>⟨rfl,by omega,by omega⟩) fun _=>⟨rfl,by omega,by omega⟩) ?_⟩
 rintro neg i h ⟨rfl,i0,i1⟩
 refine JoinW5.intro (fun _ i _ _ _ k=>k=h∧0≤i∧i≤(N:Int)) ?_ ?_
 ·have w2:IntKind.wrap .i64 (i+2)=i+2:=zae (by omega) (by omega)
  have w1:IntKind.wrap .i64 (i+1)=i+1:=zae (by omega) (by omega)
  rw [w2,w1]
  refine ⟨fun hh=>⟨i0,by have:=of_decide_eq_true hh;omega⟩,letW ⟨fun hh=> ?_,lowE fun r=>letW (iteB (fun hh=> ?_) fun _=>⟨rfl,i0,i1⟩)⟩⟩
  ·rw [Bool.and_eq_true] at hh
   have:=of_decide_eq_true hh.1
   exact ⟨by omega,by omega⟩
  ·rw [Bool.and_eq_true,Bool.and_eq_true] at hh
   have:=of_decide_eq_true hh.1.1
   exact ⟨rfl,by omega,by omega⟩
 clear i0 i1 i
 rintro hex i base mx ex h ⟨rfl,i0,i1⟩
 refine JoinW9.intro (fun m _ i _ _ _ _ _ _ k=>k=h∧0≤i∧i≤(N:Int)∧U64 m) ?_ ?_
 ·refine LoopW9.intro (fun m _ i _ _ _ _ _ _ k=>k=h∧0≤i∧i≤(N:Int)∧U64 m) (fun _ _ i _ _ _ _ _ _ _=>(N-i).toNat) ⟨rfl,i0,i1,0,rfl,by decide⟩ ?_
  clear i0 i1 i
  rintro m tr i us sd sg nd ndm dp h ⟨rfl,i0,i1,hm⟩
  refine iteB (fun hi=> ?_) fun _=>⟨rfl,i0,i1,hm⟩
  have hi:=of_decide_eq_true hi
  refine JoinW8.intro (fun m _ _ _ _ _ _ _ k=>k=h∧U64 m) ?_ ?_
  ·refine ⟨⟨i0,hi⟩,iteB (fun _=>⟨rfl,hm⟩) fun _=>iteB (fun _=>iteB (fun _=>⟨rfl,i0,i1,hm⟩) fun _=>⟨rfl,hm⟩) fun _=>letW (iteB (fun _=>letW (iteB (fun _=>⟨rfl,hm⟩) fun _=>iteB (fun _=>⟨rfl,zql _⟩) fun _=>iteB (fun _=>⟨rfl,hm⟩) fun _=>⟨rfl,hm⟩)) fun _=> ?_)⟩
   refine lowE fun r=>letW (lowE fun r1=>letW (iteB (fun _=>iteB (fun _=>lowC fun _=>⟨rfl,zql _⟩) fun _=>⟨rfl,hm⟩) fun _=>⟨rfl,i0,i1,hm⟩))
  rintro m tr us sd sg nd ndm dp h ⟨rfl,hm⟩
  rw [zae (n:=i+1) (by omega) (by omega)]
  exact ⟨⟨rfl,by omega,by omega,hm⟩,by omega⟩
 clear i0 i1 i
 rintro m tr i us sd sg nd ndm dp h ⟨rfl,i0,i1,hm⟩
 refine iteB (fun _=>no _ _ _ _ _ _ hm) fun _=> ?_
 refine JoinW1.intro (fun _ k=>k=h) (iteB (fun _=>rfl) fun _=>rfl) ?_
 rintro dp h rfl
 refine JoinW2.intro (fun _ _ k=>k=h) (iteB (fun _=>rfl) fun _=>rfl) ?_
 rintro ndm dp h rfl
 refine JoinW3.intro (fun i _ _ k=>k=h∧0≤i∧i≤(N:Int)) ?_ ?_
 ·refine ⟨fun hh=>⟨i0,of_decide_eq_true hh⟩,lowE fun r=>letW (iteB (fun hy=> ?_) fun _=>iteB (fun _=>no _ _ _ _ _ _ hm) fun _=>⟨rfl,i0,i1⟩)⟩
  rw [Bool.and_eq_true] at hy
  have hi:=of_decide_eq_true hy.1
  rw [zae (n:=i+1) (by omega) (by omega)]
  refine iteB (fun _=>no _ _ _ _ _ _ hm) fun h1=> ?_
  have h1:¬i+1≥(N:Int):=fun e=>h1 (decide_eq_true e)
  refine ⟨⟨by omega,by omega⟩,JoinW2.intro (fun i3 _ k=>k=h∧0≤i3∧i3≤(N:Int)) ?_ ?_⟩
  ·rw [zae (n:=i+1+1) (by omega) (by omega)]
   exact iteB (fun _=>⟨rfl,by omega,by omega⟩) fun _=>iteB (fun _=>⟨rfl,by omega,by omega⟩) fun _=>⟨rfl,by omega,by omega⟩
  rintro i3 es h ⟨rfl,j0,j1⟩
  refine ⟨fun hh=>⟨j0,?_⟩,letW ⟨fun hh=>⟨j0,?_⟩,letW (iteB (fun _=>no _ _ _ _ _ _ hm) fun hy2=> ?_)⟩⟩
  ·have:¬i3≥(N:Int):=fun e=>by rw [decide_eq_true e] at hh;cases hh
   omega
  ·have:¬i3≥(N:Int):=fun e=>by rw [decide_eq_true e,Bool.true_or] at hh;cases hh
   omega
  refine LoopW3.intro (fun i4 _ _ k=>k=h∧0≤i4∧i4≤(N:Int)) (fun i4 _ _ _=>(N-i4).toNat) ⟨rfl,j0,j1⟩ ?_
  rintro i4 us4 e4 h ⟨rfl,k0,k1⟩
  refine ⟨fun hh=>⟨k0,of_decide_eq_true hh⟩,fun hh=>⟨k0,by rw [Bool.and_eq_true] at hh;exact of_decide_eq_true hh.1⟩,letW ⟨fun hh=>⟨k0,by rw [Bool.and_eq_true] at hh;exact of_decide_eq_true hh.1⟩,letW (letW (iteB (fun hy=> ?_) fun _=>⟨rfl,k0,k1⟩))⟩⟩
  rw [Bool.and_eq_true] at hy
  have hi4:=of_decide_eq_true hy.1
  refine JoinW2.intro (fun _ _ k=>k=h) ⟨⟨k0,hi4⟩,iteB (fun _=>rfl) fun _=>iteB (fun _=>⟨⟨k0,hi4⟩,rfl⟩) fun _=>rfl⟩ ?_
  rintro us5 e5 h rfl
  rw [zae (n:=i4+1) (by omega) (by omega)]
  exact ⟨⟨rfl,by omega,by omega⟩,by omega⟩
 clear i0 i1 i
 rintro i us dp h ⟨rfl,i0,i1⟩
 refine JoinW1.intro (fun _ k=>k=h) (iteB (fun _=>rfl) fun _=>rfl) ?_
 rintro e h rfl
 obtain ⟨n,rfl,hn⟩:=hm
 have fin:∀r:Bool,(if (us&&(!r))=true then Q (n:Int) e neg tr hex i false h else Q (n:Int) e neg tr hex i true h):=fun r=>iteB (fun _=>no _ _ _ _ _ _ ⟨n,rfl,hn⟩) fun _=>hq n e neg tr hex i true hn fun _=>⟨i0,i1⟩
 refine ⟨fun _=>⟨i0,i1⟩,fun _=>zln (zgp1 ?_ fun r=>letW (fin r)),fun _=>⟨true,letW (fin true)⟩⟩
 rw [ByteArray.size_extract]
 omega
end
end Lf

namespace Lf
open Go Go.Proofs
structure HEnv (h:Hp):Prop where
 f64:∃cs,Blk h 7 cs
 i0:LdIs h ⟨7,0,none⟩ [.int .u64 52]
 i1:LdIs h ⟨7,1,none⟩ [.int .u64 11]
 i2:LdIs h ⟨7,2,none⟩ [.int .i64 (-1023)]
 f32:∃cs,Blk h 6 cs
theorem HEnv.mono {h h':Hp} (e:HEnv h) (hl:h≤h'):HEnv h':=⟨e.f64.imp fun _ k=>k.le hl,zbd hl e.i0,zbd hl e.i1,zbd hl e.i2,e.f32.imp fun _ k=>k.le hl⟩
theorem zaw2 {x b:Nat} (hb:b≤1):x ||| b≤2*(x / 2)+1:=by
 have:=Nat.or_div_two_pow (a:=x) (b:=b) (n:=1)
 rw [Nat.pow_one,show b / 2=0 by omega,Nat.or_zero] at this
 omega
section
variable {h:Hp}
theorem ld_c {sh:Shape} {c:Option Bool} {a:Addr} {K:sh.T→Prop} (x:sh.T) (hl:LdIs h a (zai (sh.enc x))) (hk:K x):LdW c sh h a K:=by
 refine ⟨x,?_,hk⟩
 cases c with
 | none=>exact hl
 | some b=>exact fun _=>hl
set_option maxRecDepth 100000 in
theorem zjs2 {a b:Nat} {ca cb:List Value} {x y:Operand} (ka:Blk h a ca) (kb:Blk h b cb) (hne:a≠b):SemIs Tryz.prog (binS .eql 211 x y (.pointer (some ⟨a,0,none⟩)) (.pointer (some ⟨b,0,none⟩))) h (.bool false):=by
 have hb2:((⟨a,0,none⟩:Addr).block==(⟨b,0,none⟩:Addr).block)=false:=by simpa using hne
 obtain ⟨ta,ea⟩:=id ka
 obtain ⟨tb',eb⟩:=id kb
 obtain ⟨i,hi,h1, -, -⟩:=tb_ok.info 213 ty213 rfl
 have hsz:i.size≠0:=by rw [h1];decide
 have key:∀d,semW Tryz.prog (Op.equalIn (d+1) 211 (.pointer (some ⟨a,0,none⟩)) (.pointer (some ⟨b,0,none⟩))) (fun u h'=>u=false∧h'=h) h:=by
  intro d
  unfold Op.equalIn
  refine (zdq1 _ _).2 (zdh2 (tb_ok.und _ ty211 rfl) ?_)
  show semW _ (Go.sizeOf 213>>=fun n=>if n≠0 then sameAddr ⟨a,0,none⟩ ⟨b,0,none⟩ else _) _ h
  refine (semW_bind' _ _).2 (zzl1 hi ?_)
  rw [if_pos hsz]
  unfold sameAddr
  rw [hb2]
  simp only [Bool.false_eq_true,if_false]
  refine (semW_bind' _ _).2 (zvl (a:=⟨a,0,none⟩) ea ?_)
  refine (semW_bind' _ _).2 (zvl (a:=⟨b,0,none⟩) eb ?_)
  rw [zke1 ka]
  simp only [Bool.false_and,Bool.false_eq_true,if_false]
  refine (semW_bind' _ _).2 (zfa1 ka ?_)
  refine (semW_bind' _ _).2 (zfa1 kb ?_)
  refine (semW_bind' _ _).2 ?_
  unfold mayBeOne
  refine (semW_bind' _ _).2 (zyi ka ?_)
  refine (semW_bind' _ _).2 (zyi kb ?_)
  refine (semW_bind' _ _).2 ((semW_bind' _ _).2 (zxt (r:=a) ea ?_))
  refine (semW_bind' _ _).2 ((semW_bind' _ _).2 (zxt (r:=b) eb ?_))
  exact ⟨rfl,rfl⟩
 refine zaa1 ?_
 show semW Tryz.prog (Sem.bind (Op.equal 211 (.pointer (some ⟨a,0,none⟩)) (.pointer (some ⟨b,0,none⟩))) fun b=>Sem.pure (Value.bool b)) _ h
 refine (zdq1 _ _).2 (zxh1 _ (fun a k hk=> ?_) (key 9999))
 obtain ⟨rfl,rfl⟩:=hk
 exact ⟨rfl,rfl⟩
theorem zif1 {s p:ByteArray} {Q:Int→Hp→Prop} (hs:s.size<4611686018427387904) (hq:∀n,Q n h):zaj Tryz.prog s p Q h:=by
 unfold zaj
 refine LoopW1.intro (fun i k=>k=h∧0≤i) (fun i _=>(s.size-i).toNat) ⟨rfl,by omega⟩ ?_
 rintro i h ⟨rfl,i0⟩
 refine iteB (fun hi=> ?_) fun _=>hq _
 have hi:=of_decide_eq_true hi
 have h2:i<(s.size:Int)∧i<(p.size:Int):=by unfold min2I at hi;split at hi<;>omega
 refine ⟨⟨i0,h2.1⟩,JoinW1.intro (fun _ k=>k=h) (letW (iteB (fun _=>rfl) fun _=>rfl)) ?_⟩
 rintro c h rfl
 refine ⟨⟨i0,h2.2⟩,iteB (fun _=>hq _) fun _=> ?_⟩
 rw [zae (by omega) (by omega)]
 exact ⟨⟨rfl,by omega⟩,by omega⟩
theorem zrb1 {s:ByteArray} {Q:Nat→Int→Bool→Hp→Prop} (hs:s.size<4611686018427387904) (hq:∀f n ok,Q f n ok h):zay Tryz.prog s Q h:=by
 unfold zay
 refine iteB (fun _=>hq _ _ _) fun h0=> ?_
 have h0:0<s.size:=by
  refine Nat.pos_of_ne_zero fun e=>h0 (by rw [e];rfl)
 refine ⟨⟨by decide,by omega⟩,JoinW3.intro (fun s _ _ k=>k=h∧s.size<4611686018427387904) ?_ ?_⟩
 ·refine JoinW1.intro (fun _ k=>k=h) (iteB (fun _=>rfl) fun _=>rfl) ?_
  rintro t13 h rfl
  refine iteB (fun _=> ?_) fun _=> ?_
  ·refine JoinW1.intro (fun _ k=>k=h) ⟨⟨by decide,by omega⟩,iteB (fun _=>rfl) fun _=>rfl⟩ ?_
   rintro sg h rfl
   refine ⟨⟨by decide,by omega⟩,rfl,?_⟩
   rw [ByteArray.size_extract]
   omega
  ·refine JoinW1.intro (fun _ k=>k=h) (iteB (fun _=>rfl) fun _=>rfl) ?_
   rintro t16 h rfl
   refine iteB (fun _=>⟨rfl,hs⟩) fun _=> ?_
   refine JoinW1.intro (fun _ k=>k=h) (iteB (fun _=>rfl) fun _=>rfl) ?_
   rintro t19 h rfl
   refine iteB (fun _=>zas (zif1 hs fun n=>iteB (fun _=>ztk ?_) fun _=>hq _ _ _)) fun _=>hq _ _ _
   unfold znf
   exact zgo (n:=9221120237041090561) rfl (by decide) (hq _ _ _)
 rintro s1 sg ns h ⟨rfl,hs1⟩
 refine zas (zif1 hs1 fun n=> ?_)
 refine JoinW1.intro (fun _ k=>k=h) (letW (iteB (fun _=>rfl) fun _=>rfl)) ?_
 rintro n h rfl
 refine letW (iteB (fun _=>zki ?_) fun _=>hq _ _ _)
 unfold zig
 refine JoinW1.intro (fun v k=>k=h∧U64 v) (iteB (fun _=>⟨rfl,9218868437227405312,rfl,by decide⟩) fun _=>⟨rfl,18442240474082181120,rfl,by decide⟩) ?_
 rintro _ h ⟨rfl,v,rfl,hv⟩
 exact zgo rfl hv (hq _ _ _)
theorem zig2 {s:ByteArray} {m:Nat} {exp:Int} {neg tr:Bool} {Q:Nat→Leaf→Hp→Prop} (e:HEnv h) (hm:m<18446744073709551616) (hq:∀(f:Nat) (er:Leaf),ErOk er→Q f er h):
  zft Tryz.prog s (some ⟨7,0,none⟩) (m:Int) exp neg tr Q h:=by
 have c0:LdIs h (Addr.add ⟨7,0,none⟩ 0) [.int .u64 52]:=by rw [box_add];exact e.i0
 have c1:LdIs h (Addr.add ⟨7,0,none⟩ 1) [.int .u64 11]:=by rw [box_add];exact e.i1
 have c2:LdIs h (Addr.add ⟨7,0,none⟩ 2) [.int .i64 (-1023)]:=by rw [box_add];exact e.i2
 unfold zft
 refine zag (ld_c (sh:=shInt .u64) (11:Int) c1 ⟨by decide,zag (ld_c (sh:=shInt .i64) (-1023:Int) c2 (zag (ld_c (sh:=shInt .i64) (-1023:Int) c2 (zag (ld_c (sh:=shInt .u64) (52:Int) c0 ?_)))))⟩)
 refine LoopW2.intro (fun m _ k=>k=h∧U64 m) (fun m _ _=>(9223372036854775808-m).toNat) ⟨rfl,m,rfl,hm⟩ ?_
 rintro _ ex h ⟨rfl,m,rfl,hm⟩
 have w54:IntKind.wrap .u64 ((52:Int)+2)=((54:Nat):Int):=by decide
 refine zag (ld_c (sh:=shInt .u64) (52:Int) c0 ⟨fun _=>by decide,letW ?_⟩)
 rw [w54,shrN m (by decide)]
 refine iteB (fun hy=>⟨by decide,?_⟩) fun _=> ?_
 ·rw [Bool.and_eq_true] at hy
  have h1:((m:Nat):Int)≠0:=bne_iff_ne.1 hy.1
  have h2:((m / 2^54:Nat):Int)=0:=beq_iff_eq.1 hy.2
  have hlt:m<2^54:=by
   refine Classical.byContradiction fun hn=> ?_
   have:=Nat.div_pos (Nat.le_of_not_lt hn) (Nat.two_pow_pos 54)
   omega
  have es:shlI .u64 (m:Int) (1:Int)=((m*2:Nat):Int):=shlN (n:=1) (by decide) (by omega)
  rw [es]
  exact ⟨⟨rfl,m*2,rfl,by omega⟩,by omega⟩
 refine JoinW1.intro (fun m k=>k=h∧U64 m) (iteB (fun _=>⟨rfl,zbb _ _ _⟩) fun _=>⟨rfl,m,rfl,hm⟩) ?_
 rintro _ h ⟨rfl,m,rfl,hm⟩
 have step:∀ {m:Nat},m<18446744073709551616→bitsI .or .u64 (shrI .u64 (m:Int) (1:Int)) (bitsI .and .u64 (m:Int) (1:Int))=((m / 2 ||| m%2:Nat):Int)∧m / 2 ||| m%2≤2*(m / 4)+1:=fun {m} hm=>by
  have e1:shrI .u64 (m:Int) (1:Int)=((m / 2:Nat):Int):=shrN m (n:=1) (by decide)
  rw [e1,and1 hm,orN (by omega) (by omega)]
  refine ⟨rfl,?_⟩
  have:=zaw2 (x:=m / 2) (b:=m%2) (by omega)
  omega
 refine LoopW2.intro (fun m _ k=>k=h∧U64 m) (fun m _ _=>m.toNat) ⟨rfl,m,rfl,hm⟩ ?_
 rintro _ ex h ⟨rfl,m,rfl,hm⟩
 have w55:IntKind.wrap .u64 ((IntKind.wrap .u64 ((1:Int)+52))+2)=((55:Nat):Int):=by decide
 refine zag (ld_c (sh:=shInt .u64) (52:Int) c0 ⟨by decide,?_⟩)
 rw [w55,shrN m (by decide)]
 refine iteB (fun hy=>⟨by decide,?_⟩) fun _=> ?_
 ·have h2:((m / 2^55:Nat):Int)≠0:=bne_iff_ne.1 hy
  have hge:2^55≤m:=by
   refine Classical.byContradiction fun hn=>h2 ?_
   rw [Nat.div_eq_of_lt (by omega)];rfl
  obtain ⟨s1,s2⟩:=step hm
  rw [s1]
  exact ⟨⟨rfl,_,rfl,by omega⟩,by omega⟩
 refine LoopW2.intro (fun m _ k=>k=h∧U64 m) (fun m _ _=>m.toNat) ⟨rfl,m,rfl,hm⟩ ?_
 rintro _ ex h ⟨rfl,m,rfl,hm⟩
 refine letW (iteB (fun hy=>⟨by decide,?_⟩) fun _=>⟨by decide,?_⟩)
 ·rw [Bool.and_eq_true] at hy
  have h1:=of_decide_eq_true hy.1
  obtain ⟨s1,s2⟩:=step hm
  rw [s1]
  exact ⟨⟨rfl,_,rfl,by omega⟩,by omega⟩
 refine JoinW2.intro (fun _ _ k=>k=h) (iteB (fun _=>zag (ld_c (sh:=shInt .u64) (52:Int) c0 ⟨by decide,iteB (fun _=>⟨by decide,rfl⟩) fun _=>rfl⟩)) fun _=>rfl) ?_
 rintro m5 e4 h rfl
 refine JoinW1.intro (fun _ k=>k=h) (zag (ld_c (sh:=shInt .u64) (52:Int) c0 ⟨by decide,iteB (fun _=>zag (ld_c (sh:=shInt .i64) (-1023:Int) c2 rfl)) fun _=>rfl⟩)) ?_
 rintro e5 h rfl
 refine JoinW3.intro (fun _ _ er k=>k=h∧ErOk er) (iteB (fun _=>zag (ld_c (sh:=shInt .u64) (52:Int) c0 ⟨by decide,⟨.iface 122 (.int .i64 1),rfl⟩,rfl,rfl,.inr rfl⟩)) fun _=>⟨⟨.nilIface,rfl⟩,rfl,rfl,.inl rfl⟩) ?_
 rintro m6 e6 er h ⟨rfl,her⟩
 refine zag (ld_c (sh:=shInt .u64) (52:Int) c0 ⟨by decide,zag (ld_c (sh:=shInt .i64) (-1023:Int) c2 (zag (ld_c (sh:=shInt .u64) (11:Int) c1 ⟨by decide,zag (ld_c (sh:=shInt .u64) (52:Int) c0 ⟨by decide,?_⟩)⟩)))⟩)
 refine JoinW1.intro (fun b k=>k=h∧U64 b) (iteB (fun _=>zag (ld_c (sh:=shInt .u64) (52:Int) c0 ⟨by decide,zag (ld_c (sh:=shInt .u64) (11:Int) c1 ⟨by decide,rfl,zbb _ _ _⟩)⟩)) fun _=>⟨rfl,zbb _ _ _⟩) ?_
 rintro _ h ⟨rfl,b,rfl,hb⟩
 obtain ⟨cs,k32⟩:=e.f32
 obtain ⟨cs64,k64⟩:=e.f64
 refine ⟨false,zjs2 k64 k32 (by decide),iteF (by decide) (zgo rfl hb ⟨er,rfl,hq _ er her⟩)⟩
end
end Lf

namespace Lf
open Go Go.Proofs
def DecC (ds:List Nat) (nd dp:Int) (neg tr:Bool):List Value:=(ds.map fun (c:Nat)=>Value.int .u8 (c:Int))++ [.int .i64 nd,.int .i64 dp,.bool neg,.bool tr]
structure DX (h0 h:Hp) (b:Nat) (ds:List Nat) (nd dp:Int) (neg tr:Bool):Prop where
 le:h0≤h
 fresh:h0 b=none
 len:ds.length=800
 blk:Blk h b (DecC ds nd dp neg tr)
structure GoodD (ds:List Nat) (nd:Nat):Prop where
 pos:1≤nd
 most:nd≤800
 digs:Digs (ds.take nd)
 head:∃c,ds[0]? =some c∧49≤c∧c<58
def ndOf (h:Hp) (b:Nat):Nat:=match hcell h ⟨b,800,none⟩ with
 | some (.int _ n)=>n.toNat
 | _=>0
theorem decAt (b i:Nat):Addr.add (Addr.add (⟨b,0,none⟩:Addr) 0) (i*1)=⟨b,i,none⟩:=by rw [box_add,box_add];simp
section
variable {h0 h:Hp} {b:Nat} {ds:List Nat} {nd dp:Int} {neg tr:Bool}
theorem zel2 (hl:ds.length=800):(DecC ds nd dp neg tr).length=804:=by unfold DecC;rw [List.length_append,List.length_map,hl];rfl
theorem DX.digit (x:DX h0 h b ds nd dp neg tr) {i:Nat} (hi:i<800):LdIs h ⟨b,i,none⟩ [.int .u8 ((ds.getD i 0:Nat):Int)]:=by
 refine x.blk.ldIs (off:=i) (n:=1) ?_
 have hl:=x.len
 unfold DecC
 rw [List.drop_append_of_le_length (by rw [List.length_map];omega),List.take_append_of_le_length (by rw [List.length_drop,List.length_map];omega),List.drop_eq_getElem_cons (by rw [List.length_map];omega)]
 simp [List.getD,hl,hi]
theorem zax1 {j:Nat} (hl:ds.length=800) (hj:j<4):((DecC ds nd dp neg tr).drop (800+j)).take 1=(([.int .i64 nd,.int .i64 dp,.bool neg,.bool tr]:List Value).drop j).take 1:=by
 unfold DecC
 rw [←List.drop_drop,List.drop_left' (by rw [List.length_map];exact hl)]
theorem DX.ndAt (x:DX h0 h b ds nd dp neg tr):LdIs h (Addr.add ⟨b,0,none⟩ 800) [.int .i64 nd]:=by
 rw [box_add]
 exact x.blk.ldIs (n:=1) (zax1 (j:=0) x.len (by decide))
theorem DX.dpAt (x:DX h0 h b ds nd dp neg tr):LdIs h (Addr.add ⟨b,0,none⟩ 801) [.int .i64 dp]:=by
 rw [box_add]
 exact x.blk.ldIs (n:=1) (zax1 (j:=1) x.len (by decide))
theorem DX.negAt (x:DX h0 h b ds nd dp neg tr):LdIs h (Addr.add ⟨b,0,none⟩ 802) [.bool neg]:=by
 rw [box_add]
 exact x.blk.ldIs (n:=1) (zax1 (j:=2) x.len (by decide))
theorem DX.trAt (x:DX h0 h b ds nd dp neg tr):LdIs h (Addr.add ⟨b,0,none⟩ 803) [.bool tr]:=by
 rw [box_add]
 exact x.blk.ldIs (n:=1) (zax1 (j:=3) x.len (by decide))
theorem DX.ndIs (x:DX h0 h b ds nd dp neg tr):ndOf h b=nd.toNat:=by
 have:=x.ndAt 0 _ rfl
 rw [box_add,box_add] at this
 unfold ndOf
 rw [show 0+800+0=800 from rfl] at this
 rw [this]
theorem DX.put (x:DX h0 h b ds nd dp neg tr) {i:Nat} {v:Value} {ds':List Nat} {nd' dp':Int} {neg' tr':Bool} {K:Hp→Prop} (hi:i<804) (hl:ds'.length=800) (e:(DecC ds nd dp neg tr).set i v=DecC ds' nd' dp' neg' tr')
  (hk:∀h',DX h0 h' b ds' nd' dp' neg' tr'→K h'):StW h ⟨b,i,none⟩ [v] K:=
 put1 x.blk (by rw [zel2 x.len];exact hi) fun h' m k=>hk h' ⟨(m.le x.le fun b' hb=>by rw [List.mem_singleton.1 hb];exact x.fresh).1,x.fresh,hl,e▸k⟩
theorem DX.putD (x:DX h0 h b ds nd dp neg tr) {i c:Nat} {v:Int} {K:Hp→Prop} (hi:i<800) (hv:v=(c:Int)) (hk:∀h',DX h0 h' b (ds.set i c) nd dp neg tr→K h'):StW h ⟨b,i,none⟩ [.int .u8 v] K:=by
 subst hv
 refine x.put (by omega) (by rw [List.length_set];exact x.len) ?_ hk
 unfold DecC
 rw [List.set_append_left (h:=by rw [List.length_map,x.len];exact hi),List.map_set]
theorem zdo1 {j:Nat} {v:Value} (hl:ds.length=800):(DecC ds nd dp neg tr).set (800+j) v=(ds.map fun (c:Nat)=>Value.int .u8 (c:Int))++([.int .i64 nd,.int .i64 dp,.bool neg,.bool tr]:List Value).set j v:=by
 unfold DecC
 rw [List.set_append_right (h:=by rw [List.length_map,hl];omega),List.length_map,hl,show 800+j-800=j by omega]
theorem DX.putNd (x:DX h0 h b ds nd dp neg tr) {v:Int} {K:Hp→Prop} (hk:∀h',DX h0 h' b ds v dp neg tr→K h'):StW h (Addr.add ⟨b,0,none⟩ 800) [.int .i64 v] K:=by
 rw [box_add]
 exact x.put (by decide) x.len (zdo1 (j:=0) x.len) hk
theorem DX.putDp (x:DX h0 h b ds nd dp neg tr) {v:Int} {K:Hp→Prop} (hk:∀h',DX h0 h' b ds nd v neg tr→K h'):StW h (Addr.add ⟨b,0,none⟩ 801) [.int .i64 v] K:=by
 rw [box_add]
 exact x.put (by decide) x.len (zdo1 (j:=1) x.len) hk
theorem DX.putNeg (x:DX h0 h b ds nd dp neg tr) {v:Bool} {K:Hp→Prop} (hk:∀h',DX h0 h' b ds nd dp v tr→K h'):StW h (Addr.add ⟨b,0,none⟩ 802) [.bool v] K:=by
 rw [box_add]
 exact x.put (by decide) x.len (zdo1 (j:=2) x.len) hk
theorem DX.putTr (x:DX h0 h b ds nd dp neg tr) {v:Bool} {K:Hp→Prop} (hk:∀h',DX h0 h' b ds nd dp neg v→K h'):StW h (Addr.add ⟨b,0,none⟩ 803) [.bool v] K:=by
 rw [box_add]
 exact x.put (by decide) x.len (zdo1 (j:=3) x.len) hk
theorem GoodD.less {n m:Nat} (g:GoodD ds n) (h1:1≤m) (h2:m≤n):GoodD ds m:=
 ⟨h1,Nat.le_trans h2 g.most,fun z hz=>g.digs z (by
  rw [show m=min m n by omega,←List.take_take] at hz
  exact List.mem_of_mem_take hz),g.head⟩
theorem zuh1 {n:Nat} {Q:Hp→Prop} (x:DX h0 h b ds n dp neg tr) (g:GoodD ds n) (hk:∀h' (m:Nat),DX h0 h' b ds m dp neg tr→GoodD ds m→Q h'):zhq Tryz.prog (some ⟨b,0,none⟩) Q h:=by
 unfold zhq
 refine LoopW0.intro (fun k=>∃m:Nat,DX h0 k b ds m dp neg tr∧GoodD ds m) (fun k=>ndOf k b) ⟨n,x,g⟩ ?_
 clear x g
 rintro k ⟨m,x,g⟩
 have g1:=g.pos
 have g2:=g.most
 have hm:decide ((m:Int)>0)=true:=decide_eq_true (by omega)
 refine zag (ld_c (sh:=shInt .i64) (m:Int) x.ndAt (zag (ld_c (sh:=shInt .i64) (m:Int) x.ndAt (zag ⟨fun _=> ?_,?_⟩))))
 ·rw [zae (by omega) (by omega)];exact ⟨by omega,by omega⟩
 have e1:IntKind.wrap .i64 ((m:Int)-1)=((m-1:Nat):Int):=by rw [zae (by omega) (by omega)];omega
 rw [e1,Int.toNat_natCast,decAt]
 refine ld_c (sh:=shInt .u8) ((ds.getD (m-1) 0:Nat):Int) (x.digit (by omega)) (letW (iteB (fun hy=> ?_) fun _=> ?_))
 ·refine zag (ld_c (sh:=shInt .i64) (m:Int) x.ndAt (zag ?_))
  rw [e1]
  refine x.putNd fun k' x'=>⟨⟨m-1,x',g.less ?_ (by omega)⟩,?_⟩
  ·refine Classical.byContradiction fun hn=> ?_
   obtain ⟨c,hc,h49, -⟩:=g.head
   have:m=1:=by omega
   subst this
   rw [Bool.and_eq_true] at hy
   have:((ds.getD 0 0:Nat):Int)=48:=beq_iff_eq.1 hy.2
   rw [List.getD_eq_getElem?_getD,hc] at this
   have:(c:Int)=48:=this
   omega
  ·rw [x.ndIs,x'.ndIs];omega
 ·refine zag (ld_c (sh:=shInt .i64) (m:Int) x.ndAt (iteF (fun hh=> ?_) (hk k m x g)))
  have:(m:Int)=0:=beq_iff_eq.1 hh
  omega
theorem DX.row {n:Nat} (x:DX h0 h b ds n dp neg tr) (hn:n≤800):Rw h 1 eN ⟨some ⟨b,0,none⟩,n,800⟩ (ds.take n):=by
 have hl:=x.len
 refine zdj1 x.blk (by rw [List.length_take];omega) ?_
 rw [List.drop_zero,List.length_take,show min n ds.length=n by omega,←zia1,List.map_take]
 unfold DecC
 rw [List.take_append_of_le_length (by rw [List.length_map];omega)]
theorem zem2 {xs:List Nat} {k:Nat} {l:Sl} {Q:Bool→Hp→Prop} (r:Rw h 1 eN l xs) (hx:Digs xs) (hxl:xs.length≤800) (k1:1≤k) (k2:k<61) (hq:∀lt,LessL lt xs k→Q lt h):zco Tryz.prog l (strN (fiveL k)) Q h:=by
 have hF:fiveL k=decL (5^k):=by unfold fiveL;rw [if_neg (by omega)]
 have hv:numV (fiveL k)=5^k:=by rw [hF];exact zdk1 _
 have hd:Digs (fiveL k):=by rw [hF];exact zxi _
 have h5:=(ztz1 k k2 k1)
 have hlen:(fiveL k).length≤60:=by rw [hF,zse];have:=zmn (2^k);omega
 have er:=r.1
 unfold LessL at hq
 rw [←hv] at hq
 have hmod:numV (fiveL k)%10=5:=by rw [hv];exact h5.2
 generalize fiveL k=ys at*
 unfold zco
 rw [zbv]
 refine LoopW1.intro (fun i k=>k=h∧∃j:Nat,i=(j:Int)∧j≤ys.length∧j≤xs.length∧numV (xs.take j)=numV (ys.take j)) (fun i _=>(ys.length-i).toNat) ⟨rfl,0,rfl,by omega,by omega,rfl⟩ ?_
 rintro _ h ⟨rfl,j,rfl,j1,j2,he⟩
 by_cases hj:j<ys.length
 ·refine iteT (decide_eq_true (by omega)) ?_
  by_cases hjx:j<xs.length
  ·refine iteF (fun hh=>by have:=of_decide_eq_true hh;omega) ?_
   have hxj:xs[j]? =some xs[j]:=List.getElem?_eq_getElem hjx
   have hyj:ys[j]? =some ys[j]:=List.getElem?_eq_getElem hj
   have dx:=hx _ (List.getElem_mem hjx)
   have dy:=hd _ (List.getElem_mem hj)
   have nx:=zxh hxj
   have ny:=zxh hyj
   have px:numV (xs.take (j+1))<numV (ys.take (j+1))→_:=fun hlt=>zgc2 (x:=xs) (y:=ys) (i:=j+1) hx hd (by omega) (by omega) hlt
   have py:numV (ys.take (j+1))<numV (xs.take (j+1))→_:=fun hlt=>zgc2 (x:=ys) (y:=xs) (i:=j+1) hd hx (by omega) (by omega) hlt
   generalize xs[j]=u at*
   generalize ys[j]=v at*
   have hu:∀ {z:Nat},xs[((j:Int)).toNat]? =some z→z=u:=fun hz=>by rw [Int.toNat_natCast,hxj] at hz;exact (Option.some.inj hz).symm
   have hch:(((UInt8.toNat (List.getD (strN ys).data.toList (Int.toNat ((j:Nat):Int)) 0)):Nat):Int)=(v:Int):=by rw [Int.toNat_natCast,zqk hyj (by omega)]
   rw [hch]
   refine rdN r (by omega) (by omega) fun z hz=>⟨⟨by omega,by omega⟩,?_⟩
   rw [hu hz]
   by_cases e:u=v
   ·refine iteF (fun hh=>bne_iff_ne.1 hh (by rw [e])) ?_
    rw [zae (by omega) (by omega)]
    exact ⟨⟨rfl,j+1,by omega,by omega,by omega,by rw [nx,ny,he,e]⟩,by omega⟩
   ·refine iteT (bne_iff_ne.2 (show (u:Int)≠(v:Int) by omega)) (rdN r (by omega) (by omega) fun z hz=>⟨⟨by omega,by omega⟩,?_⟩)
    rw [hu hz]
    by_cases c:u<v
    ·rw [decide_eq_true (show (u:Int)<(v:Int) by omega)]
     refine hq true ?_
     rw [if_pos rfl]
     exact px (by omega)
    ·rw [decide_eq_false (show ¬(u:Int)<(v:Int) by omega)]
     refine hq false ?_
     rw [if_neg (by decide)]
     exact Nat.le_of_lt (py (by omega))
  ·refine iteT (decide_eq_true (by omega)) (hq true ?_)
   rw [if_pos rfl]
   have hjx:j=xs.length:=by omega
   subst hjx
   rw [List.take_of_length_le (Nat.le_refl _)] at he
   have ey:=zaw1 (ys.take xs.length) (ys.drop xs.length)
   rw [List.take_append_drop,List.length_drop,←he] at ey
   obtain ⟨q,eq⟩:∃q,ys.length=xs.length+(q+1):=⟨ys.length-xs.length-1,by omega⟩
   rw [eq,show xs.length+(q+1)-xs.length=q+1 by omega,Nat.pow_succ,←Nat.mul_assoc] at ey
   rw [eq,Nat.pow_add,Nat.mul_comm (10^xs.length),←Nat.mul_assoc,Nat.pow_succ,←Nat.mul_assoc]
   refine Nat.mul_lt_mul_of_pos_right ?_ (Nat.pow_pos (by decide))
   generalize numV xs*10^q=a at*
   omega
 ·refine iteF (fun hh=>hj (by have:=of_decide_eq_true hh;omega)) (hq false ?_)
  rw [if_neg (by decide)]
  have hjl:j=ys.length:=by omega
  subst hjl
  rw [List.take_of_length_le (l:=ys) (Nat.le_refl _)] at he
  have ex:=zaw1 (xs.take ys.length) (xs.drop ys.length)
  rw [List.take_append_drop,List.length_drop,he] at ex
  obtain ⟨q,eq⟩:∃q,xs.length=ys.length+q:=⟨xs.length-ys.length,by omega⟩
  rw [eq,show ys.length+q-ys.length=q by omega] at ex
  rw [eq,Nat.pow_add,Nat.mul_comm (10^ys.length),←Nat.mul_assoc]
  exact Nat.mul_le_mul_right _ (by omega)
end
end Lf

