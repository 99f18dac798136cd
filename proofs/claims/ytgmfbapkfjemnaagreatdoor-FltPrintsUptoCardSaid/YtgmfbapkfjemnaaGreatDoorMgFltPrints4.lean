/-
  Part 5 of the texts that the claim leans on.
-/
import Derived.Test.YtgmfbapkfjemnaaGreatDoorCards
import Derived.Test.YtgmfbapkfjemnaaGreatDoorTie
import Derived.SliceStrings
import Derived.Test.YtgmfbapkfjemnaaGreatDoorMgFltPrints3
namespace Lf
open Go Go.Proofs
section
variable {h:Hp}
theorem rdN {l:Sl} {xs:List Nat} {i:Int} {K:Int→Prop} (r:Rw h 1 eN l xs) (h0:0≤i) (h1:i<(xs.length:Int)) (hk:∀x,xs[i.toNat]? =some x→K (x:Int)):
  InB l.base l.len i∧LdW none (shInt .u8) h (sat l.base 1 i) K:=by
 obtain ⟨e1,x,hx,hl⟩:=Rw.read r zow (by decide) h0 (by rw [r.1];exact h1)
 exact ⟨e1,(x:Int),hl,hk x hx⟩
theorem zha1 {m:Nat} (h:m<10):decL m=[48+m]:=by
 unfold decL lenN
 rw [if_pos h]
 show []++ [48+m%10]=_
 rw [Nat.mod_eq_of_lt h];rfl
theorem zwp1 {m:Nat} (h:10≤m):decL m=decL (m / 10)++ [48+m%10]:=by
 unfold decL
 conv=>lhs;unfold lenN
 rw [if_neg (by omega),digL]
theorem zun {m:Nat} (h:m<18446744073709551616):(decL m).length≤20∧1≤(decL m).length:=by
 rw [zqr]
 refine ⟨?_,zoi m⟩
 rcases (zxt m).2 with e | e
 ·omega
 ·refine Classical.byContradiction fun hn=> ?_
  have:=Nat.pow_le_pow_right (n:=10) (i:=20) (j:=lenN m-1) (by decide) (by omega)
  omega
theorem zyi {n:Nat} {Q:ByteArray→Hp→Prop} (hn:n<18446744073709551616) (hk:∀h',h≤h'→Q (strN (decL n)) h'):zif Tryz.prog (n:Int) Q h:=by
 unfold zif
 refine zhx1 (xs:=([]:List Nat)) (h0:=h) (Hp.le_refl h) rfl zow fun a h1 l1 o1=> ?_
 refine LoopW2.intro (fun n1 b k=>h≤k∧∃(m:Nat) (os:List Nat),n1=(m:Int)∧m≤n∧ON h k b os∧decL n=decL m++os.reverse) (fun n1 _ _=>n1.toNat) ⟨l1,n,[],rfl,Nat.le_refl _,o1,by simp⟩ ?_
 rintro n1 b k ⟨lk,m,os,rfl,hm,o,hd⟩
 have hl:=(zun hn).1
 have hos:os.length≤20:=by
  have:=congrArg List.length hd
  rw [List.length_append,List.length_reverse] at this
  omega
 by_cases h10:10≤m
 ·refine iteT (decide_eq_true (by omega)) ⟨by decide,?_⟩
  rw [show (10:Int)=((10:Nat):Int) from rfl,tmodN,tdivN]
  refine app1 (c:=48+m%10) lk o (by rw [zah,byte8];omega) (by omega) fun l' k' hl' o'=>⟨by decide,?_⟩
  rw [wrapN (by omega)]
  refine ⟨⟨hl',m / 10,_,rfl,by omega,o',?_⟩,by omega⟩
  rw [hd,zwp1 h10,List.reverse_append,List.append_assoc];rfl
 ·refine iteF (fun hh=>h10 (by have:=of_decide_eq_true hh;omega)) ?_
  refine app1 (c:=48+m) lk o (by rw [zah,byte8];omega) (by omega) fun r k' hl' o'=> ?_
  have hbs:decL n=(os++ [48+m]).reverse:=by rw [hd,zha1 (by omega),List.reverse_append];rfl
  generalize os++ [48+m]=bs at*
  have hL:bs.length≤20:=by
   have:=congrArg List.length hbs
   rw [List.length_reverse] at this
   omega
  clear hd hos h10 hm o lk m os l1 o1
  obtain ⟨F,oF,hF⟩:=o'.ownF
  have er:=oF.1
  refine LoopW1.intro (fun i k1=>0≤i∧i≤(bs.length:Int) / 2∧Mv F k' F k1∧∃cs:List Nat,OwnF k1 1 eN r cs F∧cs.length=bs.length∧∀j:Nat,j<bs.length→cs[j]? =if (j:Int)<i∨(bs.length:Int)-i≤j then bs[bs.length-1-j]? else bs[j]?) (fun i _=>(bs.length-i).toNat)
   ⟨by omega,by omega,Mv.refl _ _,bs,oF,rfl,fun j hj=>by rw [if_neg (by omega)]⟩ ?_
  rintro i k1 ⟨i0,i1,mv,cs,oc,el,hc⟩
  rw [show (2:Int)=((2:Nat):Int) from rfl,tdivN,er,zac (n:=((bs.length / 2:Nat):Int)) (by omega) (by omega)]
  refine ⟨by decide,?_⟩
  by_cases hi:i<(bs.length:Int) / 2
  ·refine iteT (decide_eq_true (by omega)) ?_
   rw [zac (n:=(bs.length:Int)-1) (by omega) (by omega),zac (n:=(bs.length:Int)-1-i) (by omega) (by omega),zac (n:=i+1) (by omega) (by omega)]
   obtain ⟨q,rfl⟩:=Int.eq_ofNat_of_zero_le i0
   have g1:=rdN (oc.rw zow) (i:=(q:Int)) (by omega) (by omega) (K:=fun _=>True) (fun _ _=>trivial)
   rw [er] at g1
   refine ⟨g1.1,?_⟩
   obtain ⟨-,g1⟩:=rdN (oc.rw zow) (i:=(q:Int)) (by omega) (by omega) (K:=fun v=>∀x:Nat,cs[q]? =some x→v=(x:Int)) (fun x hx y hy=>by rw [Int.toNat_natCast,hy] at hx;rw [Option.some.inj hx])
   obtain ⟨v,gv,gx⟩:=g1
   have hq:cs[q]? =some (bs[q]'(by omega)):=by rw [hc q (by omega),if_neg (by omega)];exact List.getElem?_eq_getElem (by omega)
   have hq2:cs[bs.length-1-q]? =some (bs[bs.length-1-q]'(by omega)):=by rw [hc _ (by omega),if_neg (by omega)];exact List.getElem?_eq_getElem (by omega)
   have ev:=gx _ hq
   subst ev
   refine ⟨_,gv,?_⟩
   have e2:((bs.length:Int)-1-(q:Int))=((bs.length-1-q:Nat):Int):=by omega
   rw [e2]
   have g2:=rdN (oc.rw zow) (i:=((bs.length-1-q:Nat):Int)) (by omega) (by omega) (K:=fun v=>v=((bs[bs.length-1-q]'(by omega):Nat):Int)) (fun x hx=>by rw [Int.toNat_natCast,hq2] at hx;rw [Option.some.inj hx])
   rw [er] at g2
   obtain ⟨gb,w,gw,rfl⟩:=g2
   refine ⟨gb,_,gw,?_⟩
   have st1:=oc.store zow (i:=(q:Int)) (by omega) (by omega) (bs[bs.length-1-q]'(by omega)) (K:=fun k2=>InB r.base bs.length ((bs.length-1-q:Nat):Int)∧StW k2 (sat r.base 1 ((bs.length-1-q:Nat):Int)) [.int .u8 ((bs[q]'(by omega):Nat):Int)] (fun h7=>(fun i k1=>(0≤i∧i≤(bs.length:Int) / 2∧Mv F k' F k1∧∃cs:List Nat,OwnF k1 1 eN r cs F∧cs.length=bs.length∧∀j:Nat,j<bs.length→cs[j]? =if (j:Int)<i∨(bs.length:Int)-i≤j then bs[bs.length-1-j]? else bs[j]?)∧(bs.length-i).toNat<(bs.length-(q:Int)).toNat) ((q:Int)+1) h7)) ?_
   ·rw [er] at st1;exact st1
   intro k2 o2 m2
   have st2:=o2.store zow (i:=((bs.length-1-q:Nat):Int)) (by omega) (by rw [List.length_set];omega) (bs[q]'(by omega)) (K:=fun k1=>(fun i k1=>(0≤i∧i≤(bs.length:Int) / 2∧Mv F k' F k1∧∃cs:List Nat,OwnF k1 1 eN r cs F∧cs.length=bs.length∧∀j:Nat,j<bs.length→cs[j]? =if (j:Int)<i∨(bs.length:Int)-i≤j then bs[bs.length-1-j]? else bs[j]?)∧(bs.length-i).toNat<(bs.length-(q:Int)).toNat) ((q:Int)+1) k1) ?_
   ·rw [er] at st2;exact st2
   intro k3 o3 m3
   refine ⟨⟨by omega,by omega,mv.trans (m2.trans m3),_,o3,by rw [List.length_set,List.length_set,el],fun j hj=> ?_⟩,by omega⟩
   rw [Int.toNat_natCast,Int.toNat_natCast,List.getElem?_set,List.getElem?_set,List.length_set,el]
   by_cases c1:bs.length-1-q=j
   ·rw [if_pos c1,if_pos (by omega),if_pos (by omega),←c1,show bs.length-1-(bs.length-1-q)=q by omega,List.getElem?_eq_getElem (by omega)]
   ·rw [if_neg c1]
    by_cases c2:q=j
    ·subst c2
     rw [if_pos rfl,if_pos (by omega),if_pos (by omega),List.getElem?_eq_getElem (by omega)]
    ·rw [if_neg c2,hc j hj]
     by_cases c3:(j:Int)<q∨(bs.length:Int)-q≤j
     ·rw [if_pos c3,if_pos (by omega)]
     ·rw [if_neg c3,if_neg (by omega)]
  ·refine iteF (fun hh=>hi (by have:=of_decide_eq_true hh;omega)) ?_
   have hrev:cs=bs.reverse:=by
    refine List.ext_getElem? fun j=> ?_
    by_cases hj:j<bs.length
    ·rw [hc j hj,List.getElem?_reverse hj]
     by_cases c:(j:Int)<i∨(bs.length:Int)-i≤j
     ·rw [if_pos c]
     ·rw [if_neg c,show bs.length-1-j=j by omega]
    ·rw [List.getElem?_eq_none (by omega),List.getElem?_eq_none (by rw [List.length_reverse];omega)]
   refine ⟨strN cs,zof (e:=5) (tb_ok.und _ ty74 rfl) (tb_ok.und _ ty5 rfl) (tb_ok.und _ ty9 rfl) (oc.rw zow) ?_,?_⟩
   ·rw [hrev,←hbs];intro x hx;have:=zes1 n x hx;omega
   ·rw [hrev,←hbs];exact hk _ (mv.le hl' hF).1
theorem zwq1 {b:Nat} {Q:Int→Int→Hp→Prop} (h1:0<b) (h2:b<9218868437227405312)
  (hk:∀h' (v:Nat) (s:Int),h≤h'→v%10≠0→v<144115188075855872→ -3000≤s→s≤3000→v*unitW 0 s=valS b→Q (v:Int) (s+(lenN v:Int)-1) h'):zie Tryz.prog (b:Int) Q h:=by
 have hp:=pF_in h1 h2
 unfold zie
 refine zvq (zds2 h1 h2 fun k e lk e0 e1 e2 e3=> ?_)
 have hx:=zaq2 h1 h2 e0 e1 e2 e3
 refine LoopW1.intro (fun n k=>h≤k∧SeekF b e n) (fun n _=>(18-n).toNat) ⟨lk,zsh1 h1 h2 e0 e1 e2 e3⟩ ?_
 clear lk k
 rintro n k ⟨lk,hs⟩
 obtain ⟨n0,n1,n2⟩:=hs
 refine iteT (decide_eq_true (by omega)) ?_
 rw [zac (n:=e-n) (by omega) (by omega),zac (n:=e-n+1) (by omega) (by omega)]
 have s0: -pF b≤e-n+1:=by omega
 have hqb:vF b / unitW 0 (e-n+1)<144115188075855871:=by
  obtain ⟨-,u2, -⟩:=zgx1 h1 h2
  have e17:=zfy (a:=0) (b:= -pF b) (n:=17) (by omega)
  rw [show -pF b+((17:Nat):Int)=17-pF b by omega] at e17
  have m:=Nat.mul_le_mul_left (10^17) (zxq (a:= -pF b) (by omega) s0)
  rw [Nat.div_lt_iff_lt_mul (zbn _ _)]
  have m2:=Nat.mul_le_mul_right (unitW 0 (e-n+1)) (show 10^17≤144115188075855871 by decide)
  omega
 refine ztj (zzg1 h1 h2 s0 (by omega) fun k1 l1=> ?_)
 refine zer (zjc1 h1 h2 (by omega) (by omega) (by omega) fun k2 l2=> ?_)
 have ew:∀q:Nat,q<144115188075855871→IntKind.wrap .u64 ((q:Int)+1)=((q+1:Nat):Int):=fun q hq=>by rw [zah];omega
 rw [ew _ hqb]
 refine zer (zjc1 h1 h2 (by omega) (by omega) (by omega) fun k3 l3=>letW ?_)
 have l13:=Hp.le_trans lk (Hp.le_trans l1 (Hp.le_trans l2 l3))
 have one:(sideF b (vF b / unitW 0 (e-n+1)*unitW 0 (e-n+1))==0)=inF b (vF b / unitW 0 (e-n+1)*unitW 0 (e-n+1)):=by
  rw [Bool.eq_iff_iff,beq_iff_eq,side_zero]
 have two:(sideF b ((vF b / unitW 0 (e-n+1)+1)*unitW 0 (e-n+1))==0)=inF b ((vF b / unitW 0 (e-n+1)+1)*unitW 0 (e-n+1)):=by
  rw [Bool.eq_iff_iff,beq_iff_eq,side_zero]
 rw [one,two]
 by_cases hh:hitF b (e-n+1)=true
 ·have hval:=zzb1 h1 h2 e3 ⟨n0,n1,n2⟩ hh
  have hit:=hh
  unfold hitF at hit
  refine iteF (fun c=> ?_) ?_
  ·rw [Bool.or_eq_true] at hit
   rw [Bool.and_eq_true,Bool.not_eq_true',Bool.not_eq_true'] at c
   rcases hit with hit | hit
   ·rw [c.1] at hit;cases hit
   ·rw [c.2] at hit;cases hit
  have hpk:pickF b (e-n+1)≤vF b / unitW 0 (e-n+1)+1:=by
   unfold pickF pickD
   split<;>omega
  refine JoinW1.intro (fun c k4=>k4=k3∧c=((pickF b (e-n+1):Nat):Int)) ⟨fun _=>by decide,letW (letW (letW (letW ?_)))⟩ ?_
  ·have e5:(Int.tmod ((vF b / unitW 0 (e-n+1):Nat):Int) 2==1)=decide (vF b / unitW 0 (e-n+1)%2=1):=by
    rw [show (2:Int)=((2:Nat):Int) from rfl,tmodN,Bool.eq_iff_iff,beq_iff_eq,decide_eq_true_eq]
    omega
   have e6:(cmpN (2*(vF b%unitW 0 (e-n+1))) (unitW 0 (e-n+1))==0)=decide (2*(vF b%unitW 0 (e-n+1))=unitW 0 (e-n+1)):=by
    rw [Bool.eq_iff_iff,beq_iff_eq,zxu,decide_eq_true_eq]
   have e7:decide (cmpN (2*(vF b%unitW 0 (e-n+1))) (unitW 0 (e-n+1))>0)=decide (unitW 0 (e-n+1)<2*(vF b%unitW 0 (e-n+1))):=by
    rw [Bool.eq_iff_iff,decide_eq_true_eq,decide_eq_true_eq]
    exact cmpN_pos
   rw [e5,e6,e7]
   unfold pickF pickD
   have hin:∀X,inI (loF b) (hiF b) (oddF b) X=inF b X:=fun _=>rfl
   rw [hin,hin]
   by_cases c:inF b (vF b / unitW 0 (e-n+1)*unitW 0 (e-n+1))=true∧¬(inF b ((vF b / unitW 0 (e-n+1)+1)*unitW 0 (e-n+1))=true∧(unitW 0 (e-n+1)<2*(vF b%unitW 0 (e-n+1))∨(2*(vF b%unitW 0 (e-n+1))=unitW 0 (e-n+1)∧vF b / unitW 0 (e-n+1)%2=1)))
   ·rw [if_pos c]
    refine iteF (fun d=> ?_) ⟨rfl,rfl⟩
    simp only [Bool.or_eq_true,Bool.and_eq_true,Bool.not_eq_true',decide_eq_true_eq] at d
    rcases d with d | d
    ·rw [c.1] at d;cases d
    ·exact c.2 d
   ·rw [if_neg c]
    refine iteT ?_ ⟨rfl,rfl⟩
    simp only [Bool.or_eq_true,Bool.and_eq_true,Bool.not_eq_true',decide_eq_true_eq]
    by_cases d:inF b (vF b / unitW 0 (e-n+1)*unitW 0 (e-n+1))=true
    ·exact .inr (Classical.not_not.1 fun hn=>c ⟨d,hn⟩)
    ·exact .inl (by simpa using d)
  rintro _ k4 ⟨rfl,rfl⟩
  have hvp:0<valS b:=by
   have:=zwl1 h1 h2
   have:=(zce1 (zzv h1 h2)).1
   omega
  refine LoopW2.intro (fun s c k5=>k5=k4∧∃v:Nat,c=(v:Int)∧v≠0∧v<144115188075855872∧ -pF b≤s∧v*unitW 0 s=valS b∧s+(lenN v:Int)≤1000) (fun _ c _=>c.toNat)
   ⟨rfl,pickF b (e-n+1),rfl,fun hz=>by rw [hz,Nat.zero_mul] at hval;omega,by omega,s0,hval,?_⟩ ?_
  ·have:lenN (pickF b (e-n+1))≤20:=by
    have:=(zun (m:=pickF b (e-n+1)) (by omega)).1
    rw [zqr] at this;exact this
   omega
  rintro s c k5 ⟨rfl,v,rfl,v0,v1,s1,hv,s2⟩
  have hln:=zoi v
  rw [show (10:Int)=((10:Nat):Int) from rfl,tmodN,tdivN]
  refine ⟨by decide,?_⟩
  by_cases hm:v%10=0
  ·refine iteT (by rw [hm];rfl) ⟨by decide,?_⟩
   rw [zac (by omega) (by omega),wrapN (by omega)]
   refine ⟨⟨rfl,v / 10,rfl,by omega,by omega,by omega,?_,?_⟩,by omega⟩
   ·have e:=zfy (a:=0) (b:=s) (n:=1) (by omega)
    rw [show s+1=s+((1:Nat):Int) from rfl,←e,←Nat.mul_assoc,show v / 10*10^1=v by omega]
    exact hv
   ·have:lenN v=lenN (v / 10)+1:=by
     conv=>lhs;unfold lenN
     rw [if_neg (by omega)]
    omega
  ·refine iteF (fun c=>hm (by have:((v%10:Nat):Int)=0:=beq_iff_eq.1 c;omega)) ?_
   refine zds (zyi (by omega) fun k6 l6=> ?_)
   rw [zao,zqr,zac (n:=s+_) (by omega) (by omega),zac (by omega) (by omega)]
   exact hk k6 v s (Hp.le_trans l13 l6) hm v1 (by omega) (by omega) hv
 ·have hh':hitF b (e-n+1)=false:=by simpa using hh
  have hnext:=zwa1 h1 h2 e3 ⟨n0,n1,n2⟩ hh'
  unfold hitF at hh'
  rw [Bool.or_eq_false_iff] at hh'
  rw [hh'.1,hh'.2]
  refine iteT rfl ?_
  rw [zac (by omega) (by omega)]
  exact ⟨⟨l13,hnext⟩,by omega⟩
end
end Lf

namespace Lf
open Go Go.Proofs
theorem zji (xs ys:List Nat):(⟨⟨List.append (strN xs).data.toList (strN ys).data.toList⟩⟩:ByteArray)=strN (xs++ys):=by
 rw [zhv,zhv]
 unfold strN
 rw [List.map_append];rfl
theorem zzh1 :∀d,d<16→ByteArray.extract ⟨#[48,49,50,51,52,53,54,55,56,57,97,98,99,100,101,102]⟩ d (d+1)=strN [hexD d]:=fun d hd=>zrl (by
 have:∀d,d<16→(ByteArray.extract ⟨#[48,49,50,51,52,53,54,55,56,57,97,98,99,100,101,102]⟩ d (d+1)).data=(strN [hexD d]).data:=by decide+kernel
 exact this d hd)
theorem zoj (n:Nat):(hexL n).length=16:=by simp [hexL]
theorem zbu1 {n i:Nat} (hi:i<16):(hexL n)[i]? =some (hexD (n / 16^(15-i)%16)):=by
 unfold hexL
 rw [List.getElem?_map,List.getElem?_range hi];rfl
section
variable {h:Hp}
theorem and15 (x:Nat) (hx:x<18446744073709551616):bitsI .and .u64 (x:Int) (15:Int)=((x%16:Nat):Int):=by
 unfold bitsI
 dsimp only
 rw [zoh,BitVec.toNat_and,zka hx,show (BitVec.ofInt 64 15).toNat=2^4-1 by decide,Nat.and_two_pow_sub_one_eq_mod,zah]
 omega
theorem zdt2 {n:Nat} {Q:ByteArray→Hp→Prop} (hn:n<18446744073709551616) (hk:Q (strN (hexL n)) h):zkl Tryz.prog (n:Int) Q h:=by
 unfold zkl
 refine LoopW2.intro (fun s i k=>k=h∧ -1≤i∧i≤15∧s=strN ((hexL n).take (15-i).toNat)) (fun _ i _=>(i+1).toNat) ⟨rfl,by omega,by omega,rfl⟩ ?_
 rintro s i h ⟨rfl,i0,i1,rfl⟩
 by_cases hi:i≥0
 ·obtain ⟨j,rfl⟩:=Int.eq_ofNat_of_zero_le hi
  refine iteT (decide_eq_true hi) ?_
  have e4:IntKind.wrap .i64 ((4:Int)*(j:Int))=((4*j:Nat):Int):=by rw [zac (by omega) (by omega)];omega
  have hlt:n / 2^(4*j)<18446744073709551616:=Nat.lt_of_le_of_lt (Nat.div_le_self _ _) hn
  rw [e4,shrN n (n:=4*j) (by omega),and15 _ hlt]
  have hd:n / 2^(4*j)%16<16:=Nat.mod_lt _ (by decide)
  have e16:n / 2^(4*j)%16=n / 16^(15-(15-j))%16:=by
   rw [show 15-(15-j)=j by omega,Nat.pow_mul]
  rw [e16] at hd ⊢
  generalize hD:n / 16^(15-(15-j))%16=d at*
  have e1:IntKind.wrap .u64 ((d:Int)+1)=((d+1:Nat):Int):=by rw [zah];omega
  rw [e1,Int.toNat_natCast,Int.toNat_natCast,zzh1 d hd,zji]
  refine ⟨by omega,⟨by omega,by omega,by omega⟩,?_,?_⟩
  ·rw [zao,zao,List.length_take]
   simp only [List.length_singleton]
   omega
  ·rw [zac (by omega) (by omega)]
   refine ⟨⟨rfl,by omega,by omega,?_⟩,by omega⟩
   rw [show ((15:Int)-((j:Int)-1)).toNat=(15-j)+1 by omega,show ((15:Int)-(j:Int)).toNat=15-j by omega,List.take_add_one,zbu1 (by omega),hD]
   rfl
 ·refine iteF (fun hh=>hi (of_decide_eq_true hh)) ?_
  rw [List.take_of_length_le (by rw [zoj];omega)]
  exact hk
theorem zcs2 {b:Nat} {Q:ByteArray→Hp→Prop} (h1:0<b) (h2:b<9218868437227405312) (hk:∀h' out,h≤h'→TextF b false out→Q (strN out) h'):zgp Tryz.prog (b:Int) Q h:=by
 unfold zgp
 refine iteF (fun hh=>by have:((b:Nat):Int)=0:=beq_iff_eq.1 hh;omega) ?_
 refine zsd (zwq1 h1 h2 fun k v s lk hm hv s0 s1 he=> ?_)
 obtain ⟨hvb,hs⟩:=zet1 h1 h2 hm s0 he
 have hp:=pF_in h1 h2
 have hln:=zun (m:=v) (by omega)
 refine zds (zyi (by omega) fun k1 l1=> ?_)
 have hT:∀out,out=numL false v s→TextF b false out:=fun out e=>⟨v,s,hm,s0,he,e⟩
 have hhead:headL false (lenN v) v=match decL v with | []=> [] | c::ds=>c::(if ds=[] then [] else 46::ds):=by
  unfold headL decL
  cases digL (lenN v) v<;>rfl
 unfold numL at hT
 rw [hhead] at hT
 rw [zqr] at hln
 have hdl:=zqr v
 cases hq:decL v with
 | nil=>rw [hq] at hdl;simp at hdl;omega
 | cons c ds=>
  rw [hq] at hT hdl
  rw [List.length_cons] at hdl
  dsimp only at hT
  have e0:(strN (c::ds)).extract 0 1=strN [c]:=by rw [zfo _ _ _ (by simp)];rfl
  have e1:(strN (c::ds)).extract 1 (ds.length+1)=strN ds:=by rw [zfo _ _ _ (by simp),List.take_of_length_le (by simp)];rfl
  rw [zao,List.length_cons,e0,e1]
  have c46:(46:UInt8)::(strN ds).data.toList=(strN (46::ds)).data.toList:=by rw [zhv,zhv];rfl
  refine ⟨⟨by decide,by omega⟩,JoinW1.intro (fun t k2=>k2=k1∧t=strN (c::(if ds=[] then [] else 46::ds))) ?_ ?_⟩
  ·by_cases hd:ds=[]
   ·subst hd
    exact iteF (by decide) ⟨rfl,rfl⟩
   ·have:=List.length_pos_iff.2 hd
    refine iteT (decide_eq_true (by omega)) ⟨⟨by decide,by omega⟩,by rw [zao];omega,?_,rfl,?_⟩
    ·rw [c46]
     show _+(strN (46::ds)).data.size≤_
     have:(strN (46::ds)).data.size=(46::ds).length:=zao _
     rw [this,zao]
     simp only [List.length_cons,List.length_nil]
     omega
    ·rw [c46,zji,if_neg hd];rfl
  rintro _ k2 ⟨rfl,rfl⟩
  have hlen:(c::(if ds=[] then [] else 46::ds)).length≤ds.length+2:=by
   rw [List.length_cons]
   split
   ·simp
   ·simp
  generalize c::(if ds=[] then [] else 46::ds)=H at*
  have hE:s+(lenN v:Int)-1=(lenN v:Int)+s-1:=by omega
  have b101:([101,45]:List UInt8)=(strN [101,45]).data.toList:=rfl
  have b101':([101]:List UInt8)=(strN [101]).data.toList:=rfl
  rw [hE]
  have hEb: -2000≤(lenN v:Int)+s-1∧(lenN v:Int)+s-1≤4000:=by omega
  generalize (lenN v:Int)+s-1=E at*
  by_cases hneg:E<0
  ·refine iteT (decide_eq_true hneg) ⟨by rw [zao];omega,?_⟩
   have ee:IntKind.wrap .u64 (IntKind.wrap .i64 ((0:Int)-E))=((E.natAbs:Nat):Int):=by rw [zac (by omega) (by omega),zah];omega
   rw [ee]
   refine zds (zyi (by omega) fun k3 l3=> ?_)
   have hx:=(zun (m:=E.natAbs) (by omega)).1
   rw [b101,show (strN H).data.toList.append (strN [101,45]).data.toList=(strN (H++ [101,45])).data.toList by rw [←zji]]
   refine ⟨?_,?_⟩
   ·show (strN (H++ [101,45])).data.size+_≤_
    have:(strN (H++ [101,45])).data.size=(H++ [101,45]).length:=zao _
    rw [this,zao,List.length_append]
    simp only [List.length_cons,List.length_nil]
    omega
   ·rw [zji]
    refine hk k3 _ (Hp.le_trans lk (Hp.le_trans l1 l3)) (hT _ ?_)
    unfold signL
    rw [if_pos hneg]
    simp
  ·refine iteF (fun hh=>hneg (of_decide_eq_true hh)) ⟨by rw [zao];omega,?_⟩
   have ee:IntKind.wrap .u64 E=((E.natAbs:Nat):Int):=by rw [zah];omega
   rw [ee]
   refine zds (zyi (by omega) fun k3 l3=> ?_)
   have hx:=(zun (m:=E.natAbs) (by omega)).1
   rw [b101',show (strN H).data.toList.append (strN [101]).data.toList=(strN (H++ [101])).data.toList by rw [←zji]]
   refine ⟨?_,?_⟩
   ·show (strN (H++ [101])).data.size+_≤_
    have:(strN (H++ [101])).data.size=(H++ [101]).length:=zao _
    rw [this,zao,List.length_append]
    simp only [List.length_cons,List.length_nil]
    omega
   ·rw [zji]
    refine hk k3 _ (Hp.le_trans lk (Hp.le_trans l1 l3)) (hT _ ?_)
    unfold signL
    rw [if_neg hneg]
    simp
theorem zwr1 {r:Nat} {out:List Nat} (h:TextF r false out):TextF r true (45::out):=by
 obtain ⟨v,s,a1,a2,a3,rfl⟩:=h
 refine ⟨v,s,a1,a2,a3,?_⟩
 have hl:=zoi v
 have hd:=zld (lenN v) v
 unfold numL headL
 cases hq:digL (lenN v) v with
 | nil=>rw [hq] at hd;simp at hd;omega
 | cons c ds=>simp
theorem zzw {n:Int} {w:Nat} {Q:ByteArray→Hp→Prop} (hn:IntKind.wrap .u64 n=(w:Int)) (hw:w<18446744073709551616) (hk:∀h' out,h≤h'→zcw w out→Q (strN out) h'):ziu Tryz.prog n Q h:=by
 unfold ziu
 rw [hn,zyo1 hw,znf1 hw]
 have hsg:(((sgn (negD w):Nat):Int) !=0)=negD w:=by cases negD w<;>rfl
 rw [hsg]
 have hr:w%9223372036854775808<9223372036854775808:=Nat.mod_lt _ (by decide)
 unfold zcw at hk
 refine JoinW1.intro (fun s k=>k=h∧(w%9223372036854775808≤9218868437227405312→s=strN (if negD w then [45] else []))) (letW ?_) ?_
 ·by_cases hc:w%9223372036854775808≤9218868437227405312
  ·rw [decide_eq_true (show ((w%9223372036854775808:Nat):Int)≤9218868437227405312 by omega),Bool.and_true]
   cases hb:negD w with
   | true=>exact iteT rfl ⟨rfl,fun _=>rfl⟩
   | false=>exact iteF (by decide) ⟨rfl,fun _=>rfl⟩
  ·rw [decide_eq_false (show ¬((w%9223372036854775808:Nat):Int)≤9218868437227405312 by omega),Bool.and_false]
   exact iteF (by decide) ⟨rfl,fun h=>absurd h hc⟩
 rintro s h ⟨rfl,hs⟩
 by_cases c1:9218868437227405312<w%9223372036854775808
 ·refine iteT (decide_eq_true (by omega)) (zvo (zdt2 hw ⟨by rw [zao,zoj];decide,?_⟩))
  have e:(⟨⟨110::(97::(110::(58::(strN (hexL w)).data.toList)))⟩⟩:ByteArray)=strN ([110,97,110,58]++hexL w):=by rw [←zji];rfl
  rw [e]
  exact hk h _ (Hp.le_refl _) (by rw [if_pos c1])
 ·refine iteF (fun hh=>c1 (by have:=of_decide_eq_true hh;omega)) ?_
  have hs:=hs (by omega)
  subst hs
  have sgl:((if negD w then [45] else []):List Nat).length≤1:=by split<;>simp
  by_cases c2:w%9223372036854775808=9218868437227405312
  ·refine iteT (by rw [c2];rfl) ⟨by rw [zao];omega,?_⟩
   have e:(⟨⟨List.append (strN (if negD w then [45] else [])).data.toList [105,110,102]⟩⟩:ByteArray)=strN ((if negD w then [45] else [])++ [105,110,102]):=by rw [←zji];rfl
   rw [e]
   exact hk h _ (Hp.le_refl _) (by rw [if_neg c1,if_pos c2])
  ·refine iteF (fun hh=>c2 (by have:((w%9223372036854775808:Nat):Int)=9218868437227405312:=beq_iff_eq.1 hh;omega)) (zuk ?_)
   by_cases c3:w%9223372036854775808=0
   ·rw [c3]
    unfold zgp
    refine iteT rfl ⟨by rw [zao];show _+3≤_;omega,?_⟩
    have e:(⟨⟨List.append (strN (if negD w then [45] else [])).data.toList (⟨#[48,101,48]⟩:ByteArray).data.toList⟩⟩:ByteArray)=strN ((if negD w then [45] else [])++ [48,101,48]):=by rw [←zji];rfl
    rw [e]
    exact hk h _ (Hp.le_refl _) (by rw [if_neg c1,if_neg c2,if_pos c3])
   ·refine zcs2 (by omega) (by omega) fun k out lk ht=> ?_
    have hol:out.length≤25:=by
     have h1:zcw (w%9223372036854775808) out:=by
      unfold zcw
      rw [Nat.mod_eq_of_lt hr,if_neg c1,if_neg c2,if_neg c3,show negD (w%9223372036854775808)=false by unfold negD;rw [decide_eq_false (by omega)]]
      exact ht
     exact (zyh h1).1
    rw [zji]
    refine ⟨by rw [zao,zao];omega,hk k _ lk ?_⟩
    rw [if_neg c1,if_neg c2,if_neg c3]
    cases hb:negD w with
    | true=>exact zwr1 ht
    | false=>exact ht
end
end Lf

namespace Lf
open Go Go.Proofs
theorem iteB {c:Prop} [Decidable c] {a b:Prop} (ha:c→a) (hb:¬c→b):if c then a else b:=by
 split
 ·exact ha ‹_›
 ·exact hb ‹_›
section
variable {h:Hp}
theorem zqo1 {c:Nat} {Q:Int→Hp→Prop} (hk:∀d:Nat,d≤16→(∀e,e<16→c=hexD e→d=e)→Q (d:Int) h):ziw Tryz.prog (c:Int) Q h:=by
 have tab:∀d,d<16→(List.getD ([48,49,50,51,52,53,54,55,56,57,97,98,99,100,101,102]:List UInt8) d 0).toNat=hexD d:=by decide
 have inj:∀d,d<16→∀e,e<16→hexD d=hexD e→d=e:=by decide
 unfold ziw
 refine LoopW1.intro (fun d k=>k=h∧0≤d∧d≤16∧∀e:Nat,(e:Int)<d→hexD e≠c) (fun d _=>(16-d).toNat) ⟨rfl,by omega,by omega,fun e he=>by omega⟩ ?_
 rintro d h ⟨rfl,d0,d1,hd⟩
 obtain ⟨i,rfl⟩:=Int.eq_ofNat_of_zero_le d0
 by_cases hi:(i:Int)<16
 ·refine iteT (decide_eq_true hi) ⟨⟨by omega,hi⟩,?_⟩
  rw [Int.toNat_natCast,tab i (by omega)]
  by_cases e:hexD i=c
  ·refine iteT (by rw [e];exact beq_self_eq_true _) (hk i (by omega) fun e' he' hc=>inj i (by omega) e' he' (e.trans hc))
  ·refine iteF (fun hh=>e (by have:((hexD i:Nat):Int)=(c:Int):=beq_iff_eq.1 hh;omega)) ?_
   rw [zah,show ((i:Int)+1)%18446744073709551616=(i:Int)+1 by omega]
   refine ⟨⟨rfl,by omega,by omega,fun e' he'=> ?_⟩,by omega⟩
   by_cases c':e'=i
   ·subst c';exact e
   ·exact hd e' (by omega)
 ·refine iteF (fun hh=>hi (of_decide_eq_true hh)) ?_
  have:(i:Int)=16:=by omega
  exact hk 16 (Nat.le_refl _) fun e' he' hc=>absurd hc.symm (hd e' (by omega))
theorem zhb1 {c:Nat} {s:Int} {Q:Int→Hp→Prop} (hc:c<18446744073709551616) (s0: -3000≤s) (s1:s≤3000)
  (hk:∀h' (b:Nat),h≤h'→b<9218868437227405312→(∀r,0<r→r<9218868437227405312→inF r (c*unitW 0 s)=true→b=r)→Q (b:Int) h'):zhk Tryz.prog (c:Int) s Q h:=by
 unfold zhk
 refine LoopW2.intro (fun low high k=>h≤k∧∃l g:Nat,low=(l:Int)∧high=(g:Int)∧zer1 (c*unitW 0 s) l g) (fun low high _=>(high-low).toNat) ⟨Hp.le_refl _,1,9218868437227405311,rfl,rfl,zlg1 _⟩ ?_
 rintro low high k ⟨lk,l,g,rfl,rfl,hw⟩
 obtain ⟨w1,w2,w3, -⟩:=id hw
 by_cases hl:l<g
 ·refine iteT (decide_eq_true (by omega)) ?_
  have em:IntKind.wrap .u64 ((l:Int)+(IntKind.wrap .u64 (Int.tdiv (IntKind.wrap .u64 ((g:Int)-(l:Int))) (2:Int))))=((l+(g-l) / 2:Nat):Int):=by
   have e1:IntKind.wrap .u64 ((g:Int)-(l:Int))=((g-l:Nat):Int):=by rw [zah];omega
   rw [e1,show (2:Int)=((2:Nat):Int) from rfl,tdivN,wrapN (by omega),zah]
   omega
  rw [em]
  have hlow:=zsi1 hw hl
  have hhigh:=zno1 hw hl
  have hm0:0<l+(g-l) / 2:=by omega
  have hm2:l≤l+(g-l) / 2:=by omega
  have hm1:l+(g-l) / 2<g:=by omega
  have em1:IntKind.wrap .u64 (((l+(g-l) / 2:Nat):Int)+1)=((l+(g-l) / 2+1:Nat):Int):=by rw [zah];omega
  rw [em1]
  generalize l+(g-l) / 2=m at*
  refine JoinW2.direct ⟨by decide,zer (zjc1 hm0 (by omega) hc s0 s1 fun k1 l1=> ?_)⟩
  rcases zcq2 m (c*unitW 0 s) with e | e | e
  ·rw [e]
   refine iteF (by decide) (iteT (by decide) ⟨⟨Hp.le_trans lk l1,l,m,rfl,rfl,hlow (by omega)⟩,by omega⟩)
  ·rw [e]
   refine iteT (by decide) (hk k1 m (Hp.le_trans lk l1) (by omega) fun r r0 r1 hr=>ziy1 hm0 r0 (side_zero.1 e) hr)
  ·rw [e]
   refine iteF (by decide) (iteF (by decide) ?_)
   exact ⟨⟨Hp.le_trans lk l1,m+1,g,rfl,rfl,hhigh (by omega)⟩,by omega⟩
 ·refine iteF (fun hh=>hl (by have:=of_decide_eq_true hh;omega)) ?_
  refine zer (zjc1 (by omega) (by omega) hc s0 s1 fun k1 l1=> ?_)
  by_cases e:sideF l (c*unitW 0 s)=0
  ·refine iteT (by rw [e];rfl) (hk k1 l (Hp.le_trans lk l1) (by omega) fun r r0 r1 hr=>ziy1 (by omega) r0 (side_zero.1 e) hr)
  ·refine iteF (fun hh=>e (beq_iff_eq.1 hh)) (hk k1 0 (Hp.le_trans lk l1) (by omega) fun r r0 r1 hr=> ?_)
   rw [zsj1 hw hl e r r0 r1] at hr
   cases hr
theorem zws1 {t:ByteArray} {Q:Int→Int→Bool→Hp→Prop} (ht:t.size≤32) (hk:∀(c:Nat) (s:Int) (ok:Bool),c<18446744073709551616→ -3000≤s→s≤3000→Q (c:Int) s ok h):zdw Tryz.prog t Q h:=by
 unfold zdw
 generalize hn:t.size=n at*
 refine LoopW3.intro (fun c s i k=>k=h∧0≤i∧i≤(n:Int)∧ -i≤s∧s≤0∧∃m:Nat,c=(m:Int)∧m<18446744073709551616) (fun _ _ i _=>(n-i).toNat) ⟨rfl,by omega,by omega,by omega,by omega,0,rfl,by decide⟩ ?_
 rintro c s i h ⟨rfl,i0,i1,s0,s1,m,rfl,hm⟩
 refine ⟨fun hh=>⟨i0,of_decide_eq_true hh⟩,letW ?_⟩
 refine iteB (fun hy=> ?_) fun hy=> ?_
 ·rw [Bool.and_eq_true] at hy
  have hi:=of_decide_eq_true hy.1
  have key:∀(c' s':Int),(-i-1≤s'∧s'≤0∧∃m:Nat,c'=(m:Int)∧m<18446744073709551616)→((h=h∧0≤IntKind.wrap .i64 (i+1)∧IntKind.wrap .i64 (i+1)≤(n:Int)∧ -(IntKind.wrap .i64 (i+1))≤s'∧s'≤0∧∃m:Nat,c'=(m:Int)∧m<18446744073709551616)∧(n-IntKind.wrap .i64 (i+1)).toNat<(n-i).toNat):=fun c' s' hh=>by
   rw [zac (by omega) (by omega)]
   exact ⟨⟨rfl,by omega,by omega,by omega,hh.2.1,hh.2.2⟩,by omega⟩
  refine JoinW3.direct ⟨fun _=>⟨i0,hi⟩,letW (iteB (fun _=>key _ _ ⟨by omega,s1,m,rfl,hm⟩) fun _=>⟨⟨i0,hi⟩,fun _=>⟨i0,hi⟩,letW (letW (iteB (fun _=>hk 0 0 false (by decide) (by decide) (by decide)) fun _=>⟨⟨i0,hi⟩,?_⟩))⟩)⟩
  refine JoinW1.intro (fun s' k=>k=h∧ -i-1≤s'∧s'≤0) (iteB (fun _=> ?_) fun _=>⟨rfl,by omega,s1⟩) ?_
  ·rw [zac (by omega) (by omega)]
   exact ⟨rfl,by omega,by omega⟩
  rintro s' h ⟨rfl,a1,a2⟩
  refine key _ _ ⟨a1,a2,_,(Int.toNat_of_nonneg ?_).symm,?_⟩
  ·rw [zah];omega
  ·rw [zah];omega
 ·rw [zac (n:=i+1) (by omega) (by omega)]
  refine ⟨fun hh=>⟨by omega,of_decide_eq_true hh⟩,letW ?_⟩
  refine JoinW1.intro (fun i1 k=>k=h∧0≤i1∧i1≤(n:Int)+2) (iteB (fun _=> ?_) fun _=>⟨rfl,by omega,by omega⟩) ?_
  ·rw [zac (by omega) (by omega)]
   exact ⟨rfl,by omega,by omega⟩
  rintro i1' h ⟨rfl,b0,b1⟩
  refine letW (letW (iteB (fun _=>hk 0 0 false (by decide) (by decide) (by decide)) fun hy3=> ?_))
  have hb:i1'<(n:Int)∧(n:Int)-i1'≤3:=by
   rw [Bool.or_eq_true,Bool.or_eq_true,not_or,not_or] at hy3
   have h1:¬i1'≥(n:Int):=fun e=>hy3.1.1 (decide_eq_true e)
   have h2:¬(n:Int)-i1'>3:=fun e=>hy3.1.2 (by rw [zac (by omega) (by omega)];exact decide_eq_true e)
   omega
  refine LoopW2.intro (fun i2 e k=>k=h∧i1'≤i2∧i2≤(n:Int)∧0≤e∧((i2=i1'∧e=0)∨(i2=i1'+1∧e≤9)∨(i2=i1'+2∧e≤99)∨(i2=i1'+3∧e≤999))) (fun i2 _ _=>(n-i2).toNat) ⟨rfl,by omega,by omega,by omega,.inl ⟨rfl,rfl⟩⟩ ?_
  rintro i2 e h ⟨rfl,c0,c1,e0,he⟩
  refine iteB (fun hh=> ?_) fun _=> ?_
  ·have hi2:=of_decide_eq_true hh
   refine ⟨⟨by omega,hi2⟩,fun _=>⟨by omega,hi2⟩,letW (iteB (fun _=>hk 0 0 false (by decide) (by decide) (by decide)) fun hy4=>⟨⟨by omega,hi2⟩,?_⟩)⟩
   generalize (((UInt8.toNat (List.getD t.data.toList (Int.toNat i2) 0)):Nat):Int)=x at*
   have hx:48≤x∧x≤57:=by
    rw [Bool.or_eq_true,not_or] at hy4
    have h1:¬x<48:=fun e=>hy4.1 (decide_eq_true e)
    have h2:¬x>57:=fun e=>hy4.2 (decide_eq_true e)
    omega
   rw [zac (n:=i2+1) (by omega) (by omega),byte8,zac (n:=(10:Int)*e) (by omega) (by omega),zac (n:=(x-48)%256) (by omega) (by omega),zac (by omega) (by omega)]
   exact ⟨⟨rfl,by omega,by omega,by omega,by omega⟩,by omega⟩
  ·refine iteB (fun _=> ?_) fun _=> ?_
   ·rw [zac (n:=(0:Int)-e) (by omega) (by omega),zac (by omega) (by omega)]
    exact hk m _ true hm (by omega) (by omega)
   ·rw [zac (by omega) (by omega)]
    exact hk m _ true hm (by omega) (by omega)
end
end Lf

namespace Lf
open Go Go.Proofs
section
variable {h:Hp}
theorem zsk1 {c:Nat} {ds xs:List Nat} {eneg:Bool} {Q:Int→Int→Bool→Hp→Prop} (hc:49≤c∧c<58) (hds:Digs ds) (hl:ds.length≤17) (hxs:Digs xs) (x1:1≤xs.length) (x2:xs.length≤3)
  (hq:Q (numV (c::ds):Int) ((if eneg then -(numV xs:Int) else numV xs)-(ds.length:Int)) true h):zdw Tryz.prog (strN (fltL false c ds eneg xs)) Q h:=by
 have hcd:Digs (c::ds):=fun z hz=>by
  rcases List.mem_cons.1 hz with rfl | hz
  ·omega
  ·exact hds z hz
 have hcl:(c::ds).length≤18:=by rw [List.length_cons];omega
 have hm:=zau1 c ds
 have hm2:1≤(manL c ds).length∧(manL c ds).length≤19:=by rw [hm];split<;>omega
 have hL:=zav1 (neg:=false) (c:=c) (ds:=ds) (eneg:=eneg) (xs:=xs)
 have hs1:sgnN eneg≤1:=by unfold sgnN;split<;>omega
 have gM:= @zqn1 false eneg c ds xs
 have gE:= @zat2 false eneg c ds xs
 have gX:= @zau2 false eneg c ds xs
 have gS:(fltL false c ds eneg xs)[(manL c ds).length+1]? =if eneg then some 45 else xs[0]?:=by
  cases eneg with
  | false=>have:=gX (j:=0) (by omega);simpa [sgnN] using this
  | true=>
   unfold fltL
   rw [show ((if false=true then [45] else []):List Nat)=[] from rfl,List.nil_append,List.getElem?_append_right (by omega),show (manL c ds).length+1-(manL c ds).length=1 by omega]
   rfl
 rw [show sgnN false=0 from rfl] at gE gX hL
 have gM:∀ {j:Nat},j<(manL c ds).length→(fltL false c ds eneg xs)[j]? =(manL c ds)[j]?:=fun {j} hj=>by have:=gM hj;rwa [show sgnN false=0 from rfl,Nat.zero_add] at this
 rw [Nat.zero_add] at gE
 have gX:∀ {j:Nat},j<xs.length→(fltL false c ds eneg xs)[(manL c ds).length+1+sgnN eneg+j]? =xs[j]?:=fun {j} hj=>by have:=gX hj;rwa [Nat.zero_add] at this
 generalize hT:fltL false c ds eneg xs=T at*
 have chr:∀ {i x:Nat},T[i]? =some x→x<256→(((UInt8.toNat (List.getD (strN T).data.toList (Int.toNat ((i:Nat):Int)) 0)):Nat):Int)=(x:Int):=fun {i x} e hx=>by rw [Int.toNat_natCast,zij e hx]
 have nw:∀ {n:Nat},n<1000→IntKind.wrap .i64 ((n:Int)+1)=((n+1:Nat):Int):=fun {n} hn=>by rw [zac (by omega) (by omega)];omega
 unfold zdw
 rw [zao]
 refine LoopW3.intro (fun v s i k=>k=h∧∃j:Nat,j≤(manL c ds).length∧v=(numV ((c::ds).take (dgN j)):Int)∧i=(j:Int)∧s= -((dgN j-1:Nat):Int)) (fun _ _ i _=>(T.length-i).toNat) ⟨rfl,0,by omega,by simp [dgN,numV],rfl,by decide⟩ ?_
 rintro v s i h ⟨rfl,j,hj,rfl,rfl,rfl⟩
 refine ⟨fun hh=>⟨by omega,of_decide_eq_true hh⟩,letW ?_⟩
 by_cases hjm:j<(manL c ds).length
 ·have gj:=gM hjm
  rcases zwo1 hjm with ⟨rfl,hd,ha⟩ | ⟨hj1,z,ha,hz⟩
  · -- the point
   rw [ha] at gj
   rw [chr gj (by decide)]
   refine iteT (by rw [decide_eq_true (by omega)];decide) (JoinW3.direct ⟨fun _=>⟨by omega,by omega⟩,letW (iteT (by decide) ?_)⟩)
   rw [nw (by omega)]
   exact ⟨⟨rfl,2,by rw [hm,if_neg hd];have:=List.length_pos_iff.2 hd;omega,rfl,rfl,rfl⟩,by omega⟩
  ·rw [ha] at gj
   have hz2:=hcd z (List.mem_of_getElem? hz)
   rw [chr gj (by omega)]
   have hdg:dgN j<(c::ds).length:=(List.getElem?_eq_some_iff.1 hz).1
   have hdg1:dgN (j+1)=dgN j+1:=by unfold dgN;split<;>split<;>omega
   have hsn:numV ((c::ds).take (dgN (j+1)))=10*numV ((c::ds).take (dgN j))+(z-48):=by rw [hdg1];exact zrm hz
   have hb1:=zcg1 hcd hcl (dgN j)
   have hj18:j≤18:=by omega
   refine iteT ?_ (JoinW3.direct ⟨fun _=>⟨by omega,by omega⟩,letW (iteF (fun hh=> ?_) ⟨⟨by omega,by omega⟩,fun _=>⟨by omega,by omega⟩,letW (letW (iteF (fun hh=> ?_) ⟨⟨by omega,by omega⟩,?_⟩))⟩)⟩)
   ·rw [decide_eq_true (by omega),Bool.true_and]
    exact bne_iff_ne.2 (by omega)
   ·rw [Bool.and_eq_true] at hh
    have:((z:Nat):Int)=46:=beq_iff_eq.1 hh.2
    omega
   ·rw [Bool.or_eq_true,Bool.or_eq_true] at hh
    rcases hh with (hh | hh) | hh
    ·have:=of_decide_eq_true hh;omega
    ·have:=of_decide_eq_true hh;omega
    ·have:=of_decide_eq_true hh;omega
   ·have ew:IntKind.wrap .u64 ((IntKind.wrap .u64 ((10:Int)*(numV ((c::ds).take (dgN j)):Int)))+(IntKind.wrap .u64 (IntKind.wrap .u8 (((z:Nat):Int)-48))))=(numV ((c::ds).take (dgN (j+1))):Int):=by
     rw [hsn,byte8,zah,zah,zah]
     omega
    rw [ew,nw (n:=j) (by omega)]
    refine JoinW1.intro (fun s' k=>k=h∧s'= -((dgN (j+1)-1:Nat):Int)) ?_ ?_
    ·by_cases c2:1<j
     ·refine iteT (decide_eq_true (by omega)) ⟨rfl,?_⟩
      have:1≤dgN j:=by unfold dgN;split<;>omega
      rw [zac (by omega) (by omega),hdg1]
      omega
     ·refine iteF (fun hh=>c2 (by have:=of_decide_eq_true hh;omega)) ⟨rfl,?_⟩
      have:j=0:=by omega
      subst this
      rfl
    rintro _ h ⟨rfl,rfl⟩
    exact ⟨⟨rfl,j+1,by omega,rfl,rfl,rfl⟩,by omega⟩
 ·have hje:j=(manL c ds).length:=by omega
  subst hje
  rw [chr gE (by decide)]
  refine iteF (by rw [show (((101:Nat):Int) !=101)=false by decide,Bool.and_false];decide) ?_
  rw [nw (n:=(manL c ds).length) (by omega)]
  have hdj:dgN (manL c ds).length=ds.length+1:=by
   rw [hm]
   unfold dgN
   by_cases hd:ds=[]
   ·rw [if_pos hd,hd];rfl
   ·have:=List.length_pos_iff.2 hd
    rw [if_neg hd,if_neg (by omega)]
    omega
  have hall:(c::ds).take (dgN (manL c ds).length)=c::ds:=List.take_of_length_le (by rw [hdj];exact Nat.le_refl _)
  rw [hall,hdj,Nat.add_sub_cancel]
  have hxb:∀k,numV (xs.take k)<1000:=fun k=>by
   have h1:=zbr1 (zs:=xs.take k) fun z hz'=>hxs z (List.mem_of_mem_take hz')
   have h2:10^(xs.take k).length≤10^3:=Nat.pow_le_pow_right (by decide) (by rw [List.length_take];omega)
   omega
  obtain ⟨y,gy,hy⟩:∃y,xs[0]? =some y∧48≤y∧y<58:=⟨xs[0],List.getElem?_eq_getElem (by omega),hxs _ (List.getElem_mem _)⟩
  have gS2:T[(manL c ds).length+1]? =some (if eneg then 45 else y):=by rw [gS];cases eneg<;>simp [gy]
  rw [chr gS2 (by split<;>omega),decide_eq_true (show (((manL c ds).length+1:Nat):Int)<(T.length:Int) by omega),Bool.true_and]
  refine ⟨fun _=>⟨by omega,by omega⟩,letW ?_⟩
  have hbit:((((if eneg=true then 45 else y:Nat):Nat):Int)==45)=eneg:=by
   cases eneg with
   | true=>rfl
   | false=>rw [Bool.eq_false_iff];intro hh;have:((y:Nat):Int)=45:=beq_iff_eq.1 hh;omega
  rw [hbit]
  refine JoinW1.intro (fun i k=>k=h∧i=(((manL c ds).length+1+sgnN eneg:Nat):Int)) ?_ ?_
  ·cases eneg with
   | true=>exact iteT rfl ⟨rfl,nw (by omega)⟩
   | false=>exact iteF (by decide) ⟨rfl,rfl⟩
  rintro _ h ⟨rfl,rfl⟩
  have hv0:numV (c::ds)≠0:=by
   have:=(znp1 (x:=c::ds) (c:=c) rfl hc.1).1
   have:=Nat.pow_pos (n:=(c::ds).length-1) (show 0<10 by decide)
   omega
  refine letW (letW (iteF (fun hh=> ?_) ?_))
  ·rw [zac (by omega) (by omega),Bool.or_eq_true,Bool.or_eq_true] at hh
   rcases hh with (hh | hh) | hh
   ·have:=of_decide_eq_true hh;omega
   ·have:=of_decide_eq_true hh;omega
   ·have:((numV (c::ds):Nat):Int)=0:=beq_iff_eq.1 hh;omega
  refine LoopW2.intro (fun i e k=>k=h∧∃j:Nat,j≤xs.length∧i=(((manL c ds).length+1+sgnN eneg+j:Nat):Int)∧e=(numV (xs.take j):Int)) (fun i _ _=>(T.length-i).toNat) ⟨rfl,0,by omega,rfl,rfl⟩ ?_
  rintro _ _ h ⟨rfl,j,hj,rfl,rfl⟩
  have hbj:=hxb j
  by_cases hjx:j<xs.length
  ·refine iteT (decide_eq_true (by omega)) ?_
   have gj:=gX hjx
   rw [List.getElem?_eq_getElem hjx] at gj
   have hz:=hxs _ (List.getElem_mem hjx)
   have hnx:=zrm (List.getElem?_eq_getElem hjx)
   generalize xs[j]=z at*
   rw [chr gj (by omega)]
   refine ⟨⟨by omega,by omega⟩,fun _=>⟨by omega,by omega⟩,letW (iteF (fun hh=> ?_) ⟨⟨by omega,by omega⟩,?_⟩)⟩
   ·rw [Bool.or_eq_true] at hh
    rcases hh with hh | hh
    ·have:=of_decide_eq_true hh;omega
    ·have:=of_decide_eq_true hh;omega
   ·rw [nw (n:=(manL c ds).length+1+sgnN eneg+j) (by omega),byte8,zac (n:=(10:Int)*_) (by omega) (by omega),zac (n:=_%256) (by omega) (by omega),zac (by omega) (by omega)]
    exact ⟨⟨rfl,j+1,by omega,rfl,by rw [hnx];omega⟩,by omega⟩
  ·refine iteF (fun hh=>hjx (by have:=of_decide_eq_true hh;omega)) ?_
   have hx:xs.take j=xs:=List.take_of_length_le (by omega)
   rw [hx] at hbj ⊢
   cases eneg with
   | true=>
    refine iteT rfl ?_
    rw [zac (n:=(0:Int)-_) (by omega) (by omega),zac (by omega) (by omega)]
    rw [if_pos rfl] at hq
    rw [show -((ds.length:Nat):Int)+(0-((numV xs:Nat):Int))= -((numV xs:Nat):Int)-((ds.length:Nat):Int) by omega]
    exact hq
   | false=>
    refine iteF (by decide) ?_
    rw [zac (by omega) (by omega)]
    rw [if_neg (by decide)] at hq
    rw [show -((ds.length:Nat):Int)+((numV xs:Nat):Int)=((numV xs:Nat):Int)-((ds.length:Nat):Int) by omega]
    exact hq
end
end Lf

namespace Lf
open Go Go.Proofs
def Said (t:ByteArray) (x e:Int):Prop:=
 (∃w out,w<18446744073709551616∧zcw w out∧t=strN out∧x=IntKind.wrap .i64 (w:Int)∧e=0)∨((∀w out,w<18446744073709551616→zcw w out→t≠strN out)∧x=0∧e=4)
theorem zaz (op:BinOp) (a b:Int):∃n:Nat,bitsI op .u64 a b=(n:Int)∧n<18446744073709551616:=by
 have h:0≤bitsI op .u64 a b∧bitsI op .u64 a b<18446744073709551616:=by
  unfold bitsI
  split<;>(rw [zah];omega)
 exact ⟨(bitsI op .u64 a b).toNat,(Int.toNat_of_nonneg h.1).symm,by omega⟩
theorem zzi1 {a:Nat} (ha:a<9223372036854775808):bitsI .or .u64 (a:Int) (9223372036854775808:Int)=((9223372036854775808+a:Nat):Int):=by
 have:=zim1 (s:=true) ha
 unfold bitsI at this ⊢
 rw [BitVec.or_comm]
 exact this
theorem zdb1 {a b:ByteArray} (h:(a.toList==b.toList)=true):a=b:=by
 have e:=eq_of_beq h
 rw [ByteArray.toList_eq,ByteArray.toList_eq] at e
 exact zrl (Array.toList_inj.1 e)
theorem zeu1 {w:Nat} (hw:w<18446744073709551616):IntKind.wrap .u64 (IntKind.wrap .i64 (w:Int))=(w:Int):=by
 have:IntKind.wrap .i64 (w:Int)=if w<9223372036854775808 then (w:Int) else (w:Int)-18446744073709551616:=by
  unfold IntKind.wrap
  simp only [IntKind.signed,IntKind.bits]
  grind
 rw [this,zah]
 split<;>omega
theorem zwt1 :∀d,d<16→hexD d<256:=by decide
section
variable {h:Hp}
theorem zqp1 {t:ByteArray} {w:Nat} {out:List Nat} {Q:Int→Int→Hp→Prop} (hw:w<18446744073709551616) (hi:zcw w out) (ht:t=strN out) (hk:∀h' x e,h≤h'→Said t x e→Q x e h'):
  CallT Tryz.prog zdt [(.int .i64 (IntKind.wrap .i64 (w:Int)))] shStr (fun r h4=>
   (if (!((ByteArray.toList r)==(ByteArray.toList t)))=true then
   Q (0:Int) (4:Int) h4
   else
   Q (IntKind.wrap .i64 (w:Int)) (0:Int) h4)) h:=by
 refine zgv (zzw (zeu1 hw) hw fun h' out' hl hi'=> ?_)
 rw [zbt1 hi' hi,←ht]
 exact iteF (by simp) (hk h' _ _ hl (.inl ⟨w,out,hw,hi,ht,rfl,rfl⟩))
theorem zct2 {t:ByteArray} {b:Int} {n:Nat} {Q:Int→Int→Hp→Prop} (hb:b=(n:Int)) (hn:n<18446744073709551616) (hno:∀w out,w<18446744073709551616→zcw w out→t≠strN out) (hk:∀h' x e,h≤h'→Said t x e→Q x e h'):
  CallT Tryz.prog zdt [(.int .i64 (IntKind.wrap .i64 b))] shStr (fun r h4=>
   (if (!((ByteArray.toList r)==(ByteArray.toList t)))=true then
   Q (0:Int) (4:Int) h4
   else
   Q (IntKind.wrap .i64 b) (0:Int) h4)) h:=by
 subst hb
 refine zgv (zzw (zeu1 hn) hn fun h' out' hl hi'=> ?_)
 refine iteB (fun _=>hk h' _ _ hl (.inr ⟨hno,rfl,rfl⟩)) fun hh=> ?_
 have:(ByteArray.toList (strN out')==ByteArray.toList t)=true:=by simpa using hh
 exact absurd (zdb1 this).symm (hno n out' hn hi')
theorem zns1 {t:ByteArray} {Q:Int→Int→Hp→Prop} (hno:∀w out,w<18446744073709551616→zcw w out→t≠strN out) (hk:∀h' x e,h≤h'→Said t x e→Q x e h'):zbe Tryz.prog t Q h:=by
 unfold zbe
 have no:∀ {k:Hp},h≤k→Q 0 4 k:=fun hl=>hk _ _ _ hl (.inr ⟨hno,rfl,rfl⟩)
 refine iteB (fun _=>no (Hp.le_refl _)) fun h32=> ?_
 have hsz:t.size≤32:=by
  have:¬(t.size:Int)>32:=fun e=>h32 (decide_eq_true e)
  omega
 refine ⟨fun hh=>⟨by decide,of_decide_eq_true hh⟩,letW ?_⟩
 refine JoinW1.intro (fun u k=>k=h∧u.size≤32) (iteB (fun hy=> ?_) fun _=>⟨rfl,hsz⟩) ?_
 ·rw [Bool.and_eq_true] at hy
  have:=of_decide_eq_true hy.1
  refine ⟨⟨by decide,by omega⟩,rfl,?_⟩
  rw [ByteArray.size_extract]
  omega
 rintro u h ⟨rfl,hu⟩
 refine JoinW1.intro (fun b k=>h≤k∧∃n:Nat,b=(n:Int)∧n<18446744073709551616) ?_ ?_
 ·refine ⟨fun hh=> ?_,letW (iteB (fun hy=> ?_) fun _=>iteB (fun _=>⟨Hp.le_refl _,9218868437227405312,rfl,by decide⟩) fun _=>iteB (fun _=>⟨Hp.le_refl _,0,rfl,by decide⟩) fun _=> ?_)⟩
  ·have:(t.size:Int)=20:=beq_iff_eq.1 hh
   omega
  ·rw [Bool.and_eq_true] at hy
   have h20:(t.size:Int)=20:=beq_iff_eq.1 hy.1
   refine LoopW2.intro (fun b i k=>k=h∧0≤i∧i≤20∧∃n:Nat,b=(n:Int)∧n<18446744073709551616) (fun _ i _=>(20-i).toNat) ⟨rfl,by omega,by omega,0,rfl,by decide⟩ ?_
   rintro b i h ⟨rfl,i0,i1,n,rfl,hn⟩
   refine iteB (fun hi=> ?_) fun _=>⟨Hp.le_refl _,n,rfl,hn⟩
   have hi:=of_decide_eq_true hi
   refine ⟨by decide,⟨i0,by omega⟩,zky (zqo1 fun d _ _=> ?_)⟩
   rw [zac (by omega) (by omega)]
   exact ⟨⟨rfl,by omega,by omega,zaz _ _ _⟩,by omega⟩
  ·refine zkz (zws1 hu fun c s ok hc s0 s1=>iteB (fun _=>no (Hp.le_refl _)) fun _=> ?_)
   exact zjx (zhb1 hc s0 s1 fun k b lk hb _=>⟨lk,b,rfl,by omega⟩)
 rintro b k ⟨lk,n,rfl,hn⟩
 refine JoinW1.intro (fun b k'=>k'=k∧∃n:Nat,b=(n:Int)∧n<18446744073709551616) (iteB (fun _=>⟨rfl,zaz _ _ _⟩) fun _=>⟨rfl,n,rfl,hn⟩) ?_
 rintro b k ⟨rfl,n,hb,hn⟩
 exact zct2 hb hn hno fun h' x e hl hs=>hk h' x e (Hp.le_trans lk hl) hs
theorem zlj1 {w:Nat} {Q:Int→Int→Hp→Prop} (hw:w<18446744073709551616) (hr:9218868437227405312<w%9223372036854775808) (hk:∀h' x e,h≤h'→Said (strN ([110,97,110,58]++hexL w)) x e→Q x e h'):
  zbe Tryz.prog (strN ([110,97,110,58]++hexL w)) Q h:=by
 have hi:zcw w ([110,97,110,58]++hexL w):=by unfold zcw;rw [if_pos hr]
 have hlen:([110,97,110,58]++hexL w).length=20:=by rw [List.length_append,zoj];rfl
 have g0:([110,97,110,58]++hexL w)[0]? =some 110:=rfl
 have e4:(strN ([110,97,110,58]++hexL w)).extract 0 4=strN [110,97,110,58]:=by rw [zfo _ _ _ (by omega)];rfl
 have gX:∀ {j:Nat},j<16→([110,97,110,58]++hexL w)[4+j]? =some (hexD (w / 16^(15-j)%16)):=fun {j} hj=>by
  rw [List.getElem?_append_right (by simp),show 4+j-([110,97,110,58]:List Nat).length=j by simp,zbu1 hj]
 have fin:=fun (k:Hp) (hl:h≤k)=>zqp1 (h:=k) (Q:=Q) hw hi rfl fun h' x e hl' hs=>hk h' x e (Hp.le_trans hl hl') hs
 generalize [110,97,110,58]++hexL w=T at*
 unfold zbe
 rw [zao,hlen,e4]
 refine iteF (by decide) ⟨fun _=>by decide,letW ?_⟩
 rw [zij g0 (by decide)]
 have hy:((decide (((20:Nat):Int)>0))&&(((110:Nat):Int)==45))=false:=by decide
 rw [hy]
 refine JoinW1.direct (iteF (by decide) (JoinW1.intro (fun b k=>k=h∧b=(w:Int)) ⟨fun _=>by decide,letW (iteT (by decide+kernel) ?_)⟩ ?_))
 ·refine LoopW2.intro (fun b i k=>k=h∧∃j:Nat,j≤16∧i=((4+j:Nat):Int)∧b=((w / 16^(16-j):Nat):Int)) (fun _ i _=>(20-i).toNat) ⟨rfl,0,by omega,rfl,by rw [Nat.div_eq_of_lt (by exact hw)];rfl⟩ ?_
  rintro _ _ h ⟨rfl,j,hj,rfl,rfl⟩
  by_cases hj16:j<16
  ·refine iteT (decide_eq_true (by omega)) ⟨by decide,⟨by omega,by omega⟩,?_⟩
   have hd:w / 16^(15-j)%16<16:=Nat.mod_lt _ (by decide)
   have hstep:w / 16^(15-j)=w / 16^(16-j)*16+w / 16^(15-j)%16:=by
    rw [show 16-j=15-j+1 by omega,Nat.pow_succ,←Nat.div_div_eq_div_mul]
    omega
   have hlt:w / 16^(15-j)<18446744073709551616:=Nat.lt_of_le_of_lt (Nat.div_le_self _ _) hw
   rw [Int.toNat_natCast,zij (gX hj16) (zwt1 _ hd)]
   refine zky (zqo1 fun d d16 hd'=> ?_)
   have:=hd' _ hd rfl
   subst this
   have en:IntKind.wrap .i64 (((4+j:Nat):Int)+1)=((4+(j+1):Nat):Int):=by rw [zac (by omega) (by omega)];omega
   rw [en]
   have es:shlI .u64 ((w / 16^(16-j):Nat):Int) (4:Int)=((w / 16^(16-j)*2^4:Nat):Int):=by
    unfold shlI
    rw [show min ((4:Int)).toNat IntKind.u64.bits=4 from rfl,zah]
    omega
   rw [es,and15 _ (by omega),Nat.mod_mod,zei1 (.inl ⟨rfl,by omega⟩) (by omega)]
   refine ⟨⟨rfl,j+1,by omega,rfl,?_⟩,by omega⟩
   rw [show 16-(j+1)=15-j by omega]
   omega
  ·refine iteF (fun hh=>hj16 (by have:=of_decide_eq_true hh;omega)) ⟨rfl,?_⟩
   rw [show 16-j=0 by omega,Nat.pow_zero,Nat.div_one]
 rintro _ h ⟨rfl,rfl⟩
 exact JoinW1.direct (iteF (by decide) (fin h (Hp.le_refl _)))
end
end Lf

namespace Lf
open Go Go.Proofs
section
variable {h:Hp}
theorem zro {w x:Nat} {body:List Nat} {Q:Int→Int→Hp→Prop} (hw:w<18446744073709551616) (hi:zcw w ((if negD w then [45] else [])++body)) (hb:body[0]? =some x) (hx:x<256) (x1:x≠45) (x2:x≠110) (hr:w%9223372036854775808≤9218868437227405312)
  (hmid:∀ {K:Int→Hp→Prop},(∀k,h≤k→K ((w%9223372036854775808:Nat):Int) k)→
   (if ((ByteArray.toList (strN body))==(ByteArray.toList ⟨#[105,110,102]⟩))=true then
   K (9218868437227405312:Int) h
   else
   (if ((ByteArray.toList (strN body))==(ByteArray.toList ⟨#[48,101,48]⟩))=true then
   K (0:Int) h
   else
   Call3 Tryz.prog zfz [(.string (strN body))] (shInt .u64) (shInt .i64) zag (fun r r1 r2 h2=>
   (if (!r2)=true then
   Q (0:Int) (4:Int) h2
   else
   CallT Tryz.prog zhg [(.int .u64 r),(.int .i64 r1)] (shInt .u64) (fun r3 h3=>
   K r3 h3) h2)) h)))
  (hk:∀h' x e,h≤h'→Said (strN ((if negD w then [45] else [])++body)) x e→Q x e h'):zbe Tryz.prog (strN ((if negD w then [45] else [])++body)) Q h:=by
 have fin:=fun (k:Hp) (hl:h≤k)=>zqp1 (h:=k) (Q:=Q) hw hi rfl fun h' x e hl' hs=>hk h' x e (Hp.le_trans hl hl') hs
 have hl25:=(zyh hi).1
 have hbl:1≤body.length:=by have:=(List.getElem?_eq_some_iff.1 hb).1;omega
 have g0:((if negD w then [45] else [])++body)[0]? =some (if negD w then 45 else x):=by cases negD w<;>simp [hb]
 have hu:∀ {s:Bool},s=negD w→(if s then (strN ((if negD w then [45] else [])++body)).extract 1 ((if negD w then [45] else [])++body).length else strN ((if negD w then [45] else [])++body))=strN body:=fun {s} hs=>by
  subst hs
  cases negD w with
  | true=>
   rw [if_pos rfl,zfo _ _ _ (Nat.le_refl _),List.take_of_length_le (Nat.le_refl _)]
   rfl
  | false=>rfl
 have hnan:(ByteArray.toList ((strN ((if negD w then [45] else [])++body)).extract 0 4)==ByteArray.toList ⟨#[110,97,110,58]⟩)=false:=by
  rw [Bool.eq_false_iff]
  intro hh
  have e:=zdb1 hh
  have h1:(((strN ((if negD w then [45] else [])++body)).extract 0 4).data.toList.getD 0 0).toNat=110:=by rw [e];rfl
  have h2:((strN ((if negD w then [45] else [])++body)).extract 0 4).data.toList.getD 0 0=(strN ((if negD w then [45] else [])++body)).data.toList.getD 0 0:=by
   rw [ByteArray.data_extract,Array.toList_extract,List.getD_eq_getElem?_getD,List.getD_eq_getElem?_getD]
   simp [List.extract]
  rw [h2,zij g0 (by split<;>omega)] at h1
  cases hc:negD w<;>rw [hc] at h1<;>simp at h1
  exact x2 h1
 generalize hT:(if negD w then [45] else [])++body=T at*
 have hTl:1≤T.length:=by rw [←hT,List.length_append];omega
 unfold zbe
 rw [zao]
 refine iteF (fun hh=>by have:=of_decide_eq_true hh;omega) ⟨fun _=>⟨by decide,by omega⟩,letW ?_⟩
 rw [zij g0 (by split<;>omega)]
 have hy:((decide (((T.length:Nat):Int)>0))&&((((if negD w=true then 45 else x:Nat):Nat):Int)==45))=negD w:=by
  rw [decide_eq_true (by omega),Bool.true_and]
  cases negD w with
  | true=>rfl
  | false=>rw [Bool.eq_false_iff];intro hh;have:((x:Nat):Int)=45:=beq_iff_eq.1 hh;omega
 rw [hy]
 refine JoinW1.intro (fun u k=>k=h∧u=strN body) ?_ ?_
 ·have:=hu rfl
  refine iteB (fun c=>⟨⟨by decide,by omega⟩,rfl,?_⟩) fun c=>⟨rfl,?_⟩
  ·rw [if_pos c] at this;exact this
  ·rw [if_neg c] at this;exact this
 rintro _ h ⟨rfl,rfl⟩
 refine JoinW1.intro (fun b k=>h≤k∧b=((w%9223372036854775808:Nat):Int)) ⟨fun hh=> ?_,letW ?_⟩ ?_
 ·have:((T.length:Nat):Int)=20:=beq_iff_eq.1 hh
  omega
 ·rw [hnan,Bool.and_false]
  exact iteF (by decide) (hmid fun k hl=>⟨hl,rfl⟩)
 rintro _ k ⟨hl,rfl⟩
 refine JoinW1.intro (fun b k'=>k'=k∧b=(w:Int)) ?_ ?_
 ·have hn:=zuy1 hw
  refine iteB (fun c=>⟨rfl,?_⟩) fun c=>⟨rfl,?_⟩
  ·rw [zzi1 (by omega)]
   rw [c] at hn
   have:sgn true=9223372036854775808:=rfl
   omega
  ·have c:negD w=false:=by simpa using c
   rw [c] at hn
   have:sgn false=0:=rfl
   omega
 rintro _ k' ⟨rfl,rfl⟩
 exact fin k' hl
theorem zdc1 {a b:ByteArray} (h:a≠b):¬(a.toList==b.toList)=true:=fun hh=>h (zdb1 hh)
theorem zwu1 {xs:List Nat} {b:ByteArray} {x:Nat} (h0:xs[0]? =some x) (hx:x<256) (hb:(b.data.toList.getD 0 0).toNat≠x):strN xs≠b:=fun e=>by
 rw [←e,zij h0 hx] at hb
 exact hb rfl
theorem znt1 {t:ByteArray} {Q:Int→Int→Hp→Prop} (hk:∀h' x e,h≤h'→Said t x e→Q x e h'):zbe Tryz.prog t Q h:=by
 by_cases hT:∃w out,w<18446744073709551616∧zcw w out∧t=strN out
 ·obtain ⟨w,out,hw,hi,rfl⟩:=hT
  have hi0:=hi
  unfold zcw at hi
  split at hi
  ·rename_i c1
   subst hi
   exact zlj1 hw c1 hk
  ·rename_i c1
   split at hi
   ·rename_i c2
    subst hi
    exact zro (x:=105) hw hi0 rfl (by decide) (by decide) (by decide) (by omega) (fun {K} hK=>iteT (by decide+kernel) (by have:=hK h (Hp.le_refl _);rw [c2] at this;exact this)) hk
   ·rename_i c2
    split at hi
    ·rename_i c3
     subst hi
     exact zro (x:=48) hw hi0 rfl (by decide) (by decide) (by decide) (by omega) (fun {K} hK=>iteF (by decide+kernel) (iteT (by decide+kernel) (by have:=hK h (Hp.le_refl _);rw [c3] at this;exact this))) hk
    ·rename_i c3
     obtain ⟨c,ds,eneg,xs,v,s,rfl,hc,hds,dl,hxs,x1,x3,hv,hs,hm,hvb,s0,s1,he⟩:=zrn (by omega) (by omega) hi
     have ef:fltL (negD w) c ds eneg xs=(if negD w then [45] else [])++fltL false c ds eneg xs:=by unfold fltL;simp
     rw [ef] at hi0 hk ⊢
     have g0:(fltL false c ds eneg xs)[0]? =some c:=rfl
     refine zro (x:=c) hw hi0 g0 (by omega) (by omega) (by omega) (by omega) (fun {K} hK=> ?_) hk
     refine iteF (zdc1 (zwu1 g0 (by omega) (by show 105≠c;omega))) (iteF (zdc1 (zwu1 g0 (by omega) (by show 48≠c;omega))) ?_)
     refine zkz (zsk1 hc hds dl hxs x1 x3 (iteF (by decide) ?_))
     rw [hv,hs]
     refine zjx (zhb1 (by omega) (by omega) (by omega) fun k b lk hb hr=> ?_)
     rw [hr (w%9223372036854775808) (by omega) (by omega) (by rw [he];exact zzv (by omega) (by omega))]
     exact hK k lk
 ·exact zns1 (fun w out hw hi ht=>hT ⟨w,out,hw,hi,ht⟩) hk
end
end Lf

namespace Lf
open Go Go.Proofs
def pow10F :List Nat:=[4607182418800017408,4621819117588971520,4636737291354636288,4652007308841189376,4666723172467343360,4681608360884174848,4696837146684686336,4711630319722168320,4726483295884279808,4741671816366391296,4756540486875873280,4771362005757984768,4786511204640096256,4801453603149578240,4816244402031689728,4831355200913801216,4846369599423283200,4861130398305394688,4876203697187506176,4891288408196988160,4906019910204099648,4921056587992461136,4936209963552724370]
structure FEnv (h:Hp):Prop where
 pow:Pow10 h
 small:zxp h
 opt:LdIs h ⟨2,0,none⟩ [.bool true]
 info:LdIs h ⟨7,0,none⟩ [.int .u64 52]
 f10:∃a c,LdIs h ⟨12,0,none⟩ [.slice (some a) 23 c]∧LdIs h a (pow10F.map fun x=>.float .f64 x)
theorem FEnv.mono {h h':Hp} (e:FEnv h) (hl:h≤h'):FEnv h':=by
 obtain ⟨a,c,e1,e2⟩:=e.f10
 exact ⟨zbd hl e.pow,zbd hl e.small,zbd hl e.opt,zbd hl e.info,a,c,zbd hl e1,zbd hl e2⟩
section
variable {neg eneg:Bool} {c:Nat} {ds xs:List Nat} {h:Hp}
theorem zwv1 {s p:ByteArray} {x y:Nat} {Q:Int→Hp→Prop} (hs:1≤s.size) (hp:1≤p.size) (hx:(s.data.toList.getD 0 0).toNat=x) (hy:(p.data.toList.getD 0 0).toNat=y) (hd:x<65) (hne:x≠y) (hq:Q 0 h):zaj Tryz.prog s p Q h:=by
 unfold zaj
 refine LoopW1.intro (fun i k=>i=0∧k=h) (fun _ _=>0) ⟨rfl,rfl⟩ ?_
 rintro _ h ⟨rfl,rfl⟩
 have hm:(0:Int)<min2I ((p.size:Nat):Int) ((s.size:Nat):Int):=by unfold min2I;split<;>omega
 rw [show Int.toNat 0=0 from rfl,hx,hy]
 refine iteT (decide_eq_true hm) ⟨⟨by decide,by omega⟩,JoinW1.direct (letW (iteF (fun hh=> ?_) ⟨⟨by decide,by omega⟩,iteT (bne_iff_ne.2 (by omega)) hq⟩))⟩
 rw [Bool.and_eq_true] at hh
 have:=of_decide_eq_true hh.1
 omega
theorem zbv1 {Q:Nat→Int→Bool→Hp→Prop} (hc:48≤c∧c<58) (hq:Q 0 0 false h):zba Tryz.prog (strN (fltL neg c ds eneg xs)) Q h:=by
 have hL:=zav1 (neg:=neg) (c:=c) (ds:=ds) (eneg:=eneg) (xs:=xs)
 have hm:=zau1 c ds
 have hm1:1≤(manL c ds).length:=by rw [hm];split<;>omega
 have g0:(fltL neg c ds eneg xs)[0]? =some (if neg then 45 else c):=by
  unfold fltL manL
  cases neg<;>rfl
 unfold zba
 rw [zij g0 (by split<;>omega),zao]
 refine iteF (fun hh=>by have:((fltL neg c ds eneg xs).length:Int)=0:=beq_iff_eq.1 hh;omega) ⟨⟨by decide,by omega⟩,JoinW3.direct ?_⟩
 cases neg with
 | false=>
  have nc:∀n:Int,58≤n∨n<48→¬((((if false=true then 45 else c:Nat):Nat):Int)==n)=true:=fun n hn hh=>by
   have:((c:Nat):Int)=n:=beq_iff_eq.1 hh
   omega
  refine JoinW1.direct (iteF (nc 43 (by omega)) (iteF (nc 45 (by omega)) ?_))
  refine JoinW1.direct (iteF (nc 105 (by omega)) (iteF (nc 73 (by omega)) ?_))
  exact JoinW1.direct (iteF (nc 110 (by omega)) (iteF (nc 78 (by omega)) hq))
 | true=>
  refine JoinW1.direct (iteF (by show ¬(((45:Nat):Int)==43)=true;decide) (iteT (by show (((45:Nat):Int)==45)=true;decide) ?_))
  refine JoinW1.direct ⟨⟨by decide,by omega⟩,iteT (by show (((45:Nat):Int)==45)=true;decide) ⟨⟨by decide,by omega⟩,?_⟩⟩
  have e:(strN (fltL true c ds eneg xs)).extract 1 (fltL true c ds eneg xs).length=strN (fltL false c ds eneg xs):=by
   rw [zfo _ _ _ (Nat.le_refl _),List.take_of_length_le (Nat.le_refl _)]
   rfl
  rw [e]
  have g1:(fltL false c ds eneg xs)[0]? =some c:=rfl
  have h1:=zav1 (neg:=false) (c:=c) (ds:=ds) (eneg:=eneg) (xs:=xs)
  refine zat (zwv1 (x:=c) (y:=105) (by rw [zao];omega) (by decide) (zij g1 (by omega)) (by decide) (by omega) (by omega) ?_)
  exact JoinW1.direct (letW (iteF (by decide) (letW (iteF (by decide) hq))))
theorem zlk1 {Q:Nat→Int→Leaf→Hp→Prop} (hc:49≤c∧c<58) (hds:∀d∈ds,48≤d∧d<58) (hl:ds.length≤17) (hxs:∀x∈xs,48≤x∧x<58) (x1:1≤xs.length) (x2:xs.length≤4) (env:FEnv h)
  (p0: -345≤(if eneg then -(numV xs:Int) else numV xs)-(ds.length:Int)) (p1:(if eneg then -(numV xs:Int) else numV xs)-(ds.length:Int)≤310) (hn:numV (c::ds)≠0)
  {f:Nat} (hx:∀ {Q':Nat→Bool→Hp→Prop},(∀h',h≤h'→Q' f true h')→zau Tryz.prog (numV (c::ds):Int) ((if eneg then -(numV xs:Int) else numV xs)-(ds.length:Int)) neg Q' h)
  (hk:∀h' (e:Leaf),h≤h'→e.v=.nilIface→Q f ((fltL neg c ds eneg xs).length:Int) e h'):zam Tryz.prog (strN (fltL neg c ds eneg xs)) Q h:=by
 unfold zam
 refine zbt (zbv1 (by omega) (iteF (by decide) ?_))
 refine zcf (zch1 hc hds hl hxs x1 x2 (iteF (by decide) (iteF (by decide) (JoinW2.direct ?_))))
 refine ld_at (sh:=zag) true env.opt (iteT rfl ?_)
 refine zan (zxo ⟨by decide,?_⟩)
 generalize hp:(if eneg then -(numV xs:Int) else numV xs)-(ds.length:Int)=p at*
 refine iteF (fun hh=>hn (by have:((numV (c::ds):Nat):Int)=0:=beq_iff_eq.1 hh;omega)) ?_
 refine iteF (fun hh=>by have:p>310:=of_decide_eq_true hh;omega) (iteF (fun hh=>by have:p< -345:=of_decide_eq_true hh;omega) (JoinW2.direct (iteT (by decide) ?_)))
 exact zdj (hx fun h' hl=>iteT rfl ⟨⟨.nilIface,rfl⟩,rfl,hk h' _ hl rfl⟩)
theorem zcm1 {Q:Nat→Leaf→Hp→Prop} (hc:49≤c∧c<58) (hds:∀d∈ds,48≤d∧d<58) (hl:ds.length≤17) (hxs:∀x∈xs,48≤x∧x<58) (x1:1≤xs.length) (x2:xs.length≤4) (env:FEnv h)
  (p0: -345≤(if eneg then -(numV xs:Int) else numV xs)-(ds.length:Int)) (p1:(if eneg then -(numV xs:Int) else numV xs)-(ds.length:Int)≤310) (hn:numV (c::ds)≠0)
  {f:Nat} (hx:∀ {Q':Nat→Bool→Hp→Prop},(∀h',h≤h'→Q' f true h')→zau Tryz.prog (numV (c::ds):Int) ((if eneg then -(numV xs:Int) else numV xs)-(ds.length:Int)) neg Q' h)
  (hk:∀h' (e:Leaf),h≤h'→Q f e h'):zch Tryz.prog (strN (fltL neg c ds eneg xs)) (64:Int) Q h:=by
 unfold zch
 refine zdq ?_
 unfold zcs
 refine zce ?_
 unfold zbq
 refine iteF (by decide) (zfl (zlk1 hc hds hl hxs x1 x2 env p0 p1 hn hx fun h1 e l1 he=>⟨e,rfl,?_⟩))
 rw [zao]
 refine iteF (fun hh=>bne_iff_ne.1 hh rfl) ⟨e,rfl,?_⟩
 dsimp only
 rw [he]
 exact ⟨rfl,iteF (by decide) ⟨⟨.nilIface,rfl⟩,rfl,hk _ _ l1⟩⟩
theorem zww1 {b:Int}:SemIs Tryz.prog (convert 51 48 (.int .u64 b)) h (.float .f64 (f64.nearest b)):=by
 refine zwx fun w=> ?_
 have u1:=run_underlying' (e:=ty51) tb_ok (t:=51) rfl w
 have u2:=run_underlying' (e:=ty48) tb_ok (t:=48) rfl w
 simp only [convert,Sem.run_bind,u1,u2,Result.andThen_ok]
 rfl
theorem zwx1 {m k:Nat} {q x f:Nat} {Q:Nat→Bool→Hp→Prop} (env:FEnv h) (hm:m<4503599627370496) (hk0:0<k) (hk:k≤22) (hq:f64.nearest (m:Int)=q) (hx:pow10F[k]? =some x) (hf:f64.format.div q x=some f) (hok:∀h',h≤h'→Q f true h'):
  zau Tryz.prog (m:Int) (-(k:Int)) false Q h:=by
 unfold zau
 have ea:Addr.add ⟨7,0,none⟩ 0=(⟨7,0,none⟩:Addr):=by rw [zak]
 rw [ea]
 refine ld_at (sh:=shInt .u64) (52:Int) env.info ⟨by decide,?_⟩
 have e0:shrI .u64 (m:Int) (52:Int)=((m / 2^52:Nat):Int):=shrN m (n:=52) (by decide)
 rw [e0,show m / 2^52=0 by rw [Nat.div_eq_zero_iff];right;exact hm]
 refine iteF (by decide) ⟨f64.nearest (m:Int),zww1,?_⟩
 refine JoinW1.direct (iteF (by decide) (iteF (fun hh=>by have: -(k:Int)=0:=beq_iff_eq.1 hh;omega) (letW (iteF (fun hh=> ?_) (letW (iteT ?_ ?_))))))
 ·rw [Bool.and_eq_true] at hh
  have:=of_decide_eq_true hh.1
  omega
 ·rw [Bool.and_eq_true]
  exact ⟨decide_eq_true (by omega),decide_eq_true (by omega)⟩
 obtain ⟨a,c,e1,e2⟩:=env.f10
 have ek:IntKind.wrap .i64 ((0:Int)-(-(k:Int)))=(k:Int):=by rw [zac (by omega) (by omega)];omega
 rw [ek]
 refine ld_at (sh:=shSl) ⟨some a,23,c⟩ e1 ⟨⟨by simp,by omega,by show (k:Int)<23;omega⟩,ld_at (sh:=shFlt .f64) x ?_ ?_⟩
 ·show LdIs h (Addr.add a (Int.toNat (k:Int)*1)) [.float .f64 x]
  rw [Int.toNat_natCast,Nat.mul_one]
  exact zsl (e2 k _ (by rw [List.getElem?_map,hx];rfl))
 ·rw [hq]
  refine zkf znk1 fun g g1 _=> ?_
  rw [g1 f hf]
  exact hok h (Hp.le_refl h)
end
end Lf

namespace Lf
open Go Go.Proofs
theorem zzj1 {v w k l:Nat} (h:v*10^k=w*10^l) (hv:v%10≠0) (hw:w%10≠0):k=l∧v=w:=by
 have key:∀ {v w k l:Nat},v*10^k=w*10^l→v%10≠0→¬k<l:=fun {v w k l} h hv hlt=>by
  obtain ⟨d,rfl⟩:∃d,l=k+(d+1):=⟨l-k-1,by omega⟩
  rw [Nat.pow_add,←Nat.mul_assoc,Nat.mul_right_comm] at h
  have:=Nat.eq_of_mul_eq_mul_right (Nat.pow_pos (by decide)) h
  rw [Nat.pow_succ,←Nat.mul_assoc] at this
  omega
 have:k=l:=by
  have h1:=key h hv
  have h2:=key h.symm hw
  omega
 subst this
 exact ⟨rfl,Nat.eq_of_mul_eq_mul_right (Nat.pow_pos (by decide)) h⟩
theorem zcu2 {d n m:Nat} (h1:10^(n-1)≤d) (h2:d<10^n) (h3:10^(m-1)≤d) (h4:d<10^m) (n1:1≤n) (m1:1≤m):n=m:=by
 have a:=(Nat.pow_lt_pow_iff_right (a:=10) (by decide)).1 (Nat.lt_of_le_of_lt h1 h4)
 have b:=(Nat.pow_lt_pow_iff_right (a:=10) (by decide)).1 (Nat.lt_of_le_of_lt h3 h2)
 omega
theorem znu1 {r:Nat} {neg:Bool} {out zs0:List Nat} {v0 k0 n0:Nat} {p:Int} (hp:zda1 r neg out) (h:zbl (mS r) (eS r)=(v0*10^k0,p)) (hv:v0%10≠0) (h1:10^(n0-1)≤v0*10^k0) (h2:v0*10^k0<10^n0) (n1:1≤n0)
  (hz:∀zs,zcf1 ((n0:Int)+p-1).natAbs zs→zs=zs0):out=headL neg (n0-k0) v0++101::(signL ((n0:Int)+p-1)++zs0):=by
 obtain ⟨n,k,v,zs,a1,a2,a3,a4,a5,a6,a7,a8⟩:=hp
 rw [h] at a1 a5 a6 a7 a8
 obtain ⟨rfl,rfl⟩:=zzj1 a1.symm a2 hv
 obtain rfl:=zcu2 a5 a6 h1 h2 (by omega) n1
 rw [a8,hz zs a7]
section
variable {h:Hp}
abbrev ztm :Nat:=4609434218613702656
theorem zbw1 :zbl (mS ztm) (eS ztm)=(15*10^14, -15):=by decide+kernel
theorem zhc1 {Q:ByteArray→Hp→Prop} (env:FEnv h) (hk:∀h',h≤h'→Q (strN [49,46,53,101,48]) h'):zlh Tryz.prog (4609434218613702656:Int) Q h:=by
 have hr:ztm%9223372036854775808=ztm:=by decide
 refine zqk1 (w:=ztm) (by decide) (by rw [hr];decide) (by rw [hr];decide) (by rw [hr,zbw1];decide) (by rw [hr,zbw1];decide) env.pow env.small fun h' out hl hp=> ?_
 rw [hr] at hp
 have hn:negD ztm=false:=by decide
 rw [hn] at hp
 have:=znu1 (zs0:=[48]) (n0:=16) hp zbw1 (by decide) (by decide) (by decide) (by decide) (fun zs hz=>by
  obtain ⟨n,rfl, -,a2,a3⟩:=hz
  rcases a3 with rfl | a3
  ·rfl
  ·have:10^(n-1)≤0:=a3
   have:=Nat.pow_pos (n:=n-1) (show 0<10 by decide)
   omega)
 rw [this]
 exact hk h' hl
theorem zhd1 {c:Nat} {ds xs:List Nat} {k x:Nat} {Q:Int→Int→Hp→Prop} (env:FEnv h) (hc:c=49) (hds:ds=[53]∧k=1∨ds=[53,48]∧k=2) (hxs:xs=[48]) (hx:pow10F[k]? =some x) (hf:∀q,f64.nearest ((numV (c::ds):Nat):Int)=q→f64.format.div q x=some ztm)
  (hk:∀h',h≤h'→Q (if ds=[53] then 4609434218613702656 else 0) (if ds=[53] then 0 else 4) h'):zrf Tryz.prog (strN (fltL false c ds false xs)) Q h:=by
 subst hc hxs
 unfold zrf
 have hpre:(strN (fltL false 49 ds false [48])).size=ds.length+4∧((strN (fltL false 49 ds false [48])).extract 0 4).toList.head? =some 49:=by
  rcases hds with ⟨rfl, -⟩ | ⟨rfl, -⟩<;>exact ⟨by decide+kernel,by decide+kernel⟩
 refine zgc ?_
 unfold zid
 refine zfu ?_
 unfold zdn
 refine zfv ?_
 unfold zdo
 have hs4:((⟨#[110,97,110,58]⟩:ByteArray).size)=4:=rfl
 rw [hpre.1,hs4]
 refine ⟨fun _=>⟨by omega,by omega⟩,letW ?_⟩
 have hne:(((strN (fltL false 49 ds false [48])).extract 0 (Int.toNat ((4:Nat):Int))).toList==(⟨#[110,97,110,58]⟩:ByteArray).toList)=false:=by
  rw [Bool.eq_false_iff]
  intro hh
  have e:=eq_of_beq hh
  have:=congrArg List.head? e
  rw [show Int.toNat ((4:Nat):Int)=4 from rfl,hpre.2] at this
  revert this
  decide+kernel
 rw [hne,Bool.and_false]
 refine iteT (by decide) (JoinW1.direct (iteF (by decide) ?_))
 have hd1:ds.length=k∧(∀d∈ds,48≤d∧d<58)∧k≤2∧0<k∧numV (49::ds)<1000∧numV (49::ds)≠0:=by
  rcases hds with ⟨rfl,rfl⟩ | ⟨rfl,rfl⟩<;>decide
 obtain ⟨e1,e2,e3,e4,e5,e6⟩:=hd1
 have hp:(if false=true then -((numV [48]:Nat):Int) else ((numV [48]:Nat):Int))-(ds.length:Int)= -(k:Int):=by rw [e1];simp [numV]
 refine zii (zcm1 (f:=ztm) (by decide) e2 (by omega) (by decide) (by decide) (by decide) env (by rw [hp];omega) (by rw [hp];omega) e6 (fun {Q'} hq'=> ?_) fun h1 er l1=> ?_)
 ·rw [hp]
  exact zwx1 env (by omega) e4 (by omega) rfl hx (hf _ rfl) hq'
 refine ⟨(ztm:Int),rfl,?_⟩
 have ew:IntKind.wrap .i64 ((ztm:Nat):Int)=(4609434218613702656:Int):=by decide
 dsimp only
 rw [ew]
 refine zkw (zhc1 (env.mono l1) fun h2 l2=> ?_)
 have hk':=hk h2 (Hp.le_trans l1 l2)
 rcases hds with ⟨rfl, -⟩ | ⟨rfl, -⟩
 ·exact iteF (by decide+kernel) hk'
 ·exact iteT (by decide+kernel) hk'
theorem zzk1 {Q:Bool→Hp→Prop} (env:FEnv h) (hq:∀h',h≤h'→Q true h'):ziv Tryz.prog Q h:=by
 unfold ziv
 have f1:fltP 15 4607182418800017408 4607182418800017408=4611686018427387904:=by decide+kernel
 have f2:fltP 18 0 0=9221120237041090560:=by decide+kernel
 have s1:(⟨#[49,46,53,101,48]⟩:ByteArray)=strN (fltL false 49 [53] false [48]):=zrl (by decide+kernel)
 have s2:(⟨#[49,46,53,48,101,48]⟩:ByteArray)=strN (fltL false 49 [53,48] false [48]):=zrl (by decide+kernel)
 have t1:(strN [49,46,53,101,48]).toList=(strN (fltL false 49 [53] false [48])).toList:=rfl
 rw [s1,s2]
 refine zzq (zit1 (fun _=> ?_) fun hh=>absurd (by decide) hh)
 refine zzq (zit1 (fun _=> ?_) fun hh=>absurd (by decide) hh)
 refine zzq (zit1 (fun hh=>absurd hh (by decide)) fun _=> ?_)
 rw [f1,f2]
 refine ztg (zhd1 env rfl (.inl ⟨rfl,rfl⟩) rfl rfl (fun q hq'=>by subst hq';decide+kernel) fun h1 l1=> ?_)
 refine ztg (zhd1 (env.mono l1) rfl (.inr ⟨rfl,rfl⟩) rfl rfl (fun q hq'=>by subst hq';decide+kernel) fun h2 l2=> ?_)
 have l12:=Hp.le_trans l1 l2
 refine letW (letW (letW (letW (letW (letW (letW (effB (by decide) (zkw ?_)))))))) 
 rw [if_pos rfl]
 refine zhc1 (env.mono l12) fun h3 l3=>letW ?_
 rw [t1]
 have:=hq h3 (Hp.le_trans l12 l3)
 simpa using this
end
end Lf

namespace Lf
open Go Go.Proofs
structure PEnv (h:Hp):Prop where
 env:FEnv h
 tz:LdIs h ⟨14,15,none⟩ [.int .u8 4]
theorem PEnv.mono {h h':Hp} (e:PEnv h) (hl:h≤h'):PEnv h':=⟨e.env.mono hl,zbd hl e.tz⟩
section
variable {h:Hp}
theorem zcv2 {Q:Int→Hp→Prop} (e:PEnv h) (hq:Q 4 h):zgt Tryz.prog (16:Int) Q h:=by
 unfold zgt
 refine zou ?_
 unfold zjw
 have e1:shrI .u64 (IntKind.wrap .u64 ((bitsI .and .u64 (16:Int) (IntKind.wrap .u64 ((0:Int)-16)))*(285870213051353865:Int))) (58:Int)=15:=by decide+kernel
 rw [e1]
 refine iteF (by decide) ⟨by decide,⟨by decide,by decide⟩,ld_at (sh:=shInt .u8) (4:Int) ?_ hq⟩
 show LdIs h (Addr.add ⟨_,0,none⟩ 15) _
 rw [zak]
 exact e.tz
theorem zzl1 {w j:Nat} (hj:j<16):(hexL w).drop (16-(j+1))=hexD (w / 16^j%16)::(hexL w).drop (16-j):=by
 have h1:=zbu1 (n:=w) (i:=15-j) (by omega)
 obtain ⟨h2,h3⟩:=List.getElem?_eq_some_iff.1 h1
 rw [show 16-(j+1)=15-j by omega,List.drop_eq_getElem_cons h2,h3,show 15-(15-j)=j by omega,show 15-j+1=16-j by omega]
theorem zqq1 :∀d,d<16→(List.getD ([48,49,50,51,52,53,54,55,56,57,97,98,99,100,101,102,103,104,105,106,107,108,109,110,111,112,113,114,115,116,117,118,119,120,121,122]:List UInt8) d 0).toNat=hexD d:=by decide
theorem zqr1 {α:Type} {n:Nat} {z v:α} {suf:List α}:(List.replicate (n+1) z++suf).set n v=List.replicate n z++v::suf:=by
 rw [List.replicate_succ',List.append_assoc,List.set_append_right (h:=by simp)]
 simp
theorem zjd1 {w:Nat} {Q:Sl→ByteArray→Hp→Prop} (e:PEnv h) (hw:w<18446744073709551616) (hw0:1152921504606846976≤w) (hk:∀s h',h≤h'→Q s (strN (hexL w)) h'):
  zeu Tryz.prog ⟨none,0,0⟩ (w:Int) (16:Int) false false Q h:=by
 unfold zeu
 refine JoinW0.direct (letW (letW (iteF (by decide) ?_)))
 intro b ty hb
 generalize hbuf:([.int .u8 (0:Int),_,_,_,_,_,_,_,_,_,_,_,_,_,_,_,_,_,_,_,_,_,_,_,_,_,_,_,_,_,_,_,_,_,_,_,_,_,_,_,_,_,_,_,_,_,_,_,_,_,_,_,_,_,_,_,_,_,_,_,_,_,_,_,_]:List Value)=buf
 have hbl:buf=List.replicate 65 (Value.int .u8 (0:Int)):=by rw [←hbuf];rfl
 have hle:=znn (o:=.cells buf.toArray ty (0,0)) hb
 have kb:Blk (h.set b (.cells buf.toArray ty (0,0))) b buf:=⟨ty,zmh⟩
 clear hbuf
 subst hbl
 generalize h.set b (.cells (List.replicate 65 (Value.int .u8 (0:Int))).toArray ty (0,0))=h1 at*
 refine JoinW1.direct (iteF (by decide) ?_)
 refine JoinW1.intro (fun i k=>i=49∧Mv [b] h1 [b] k∧Blk k b (List.replicate 49 (Value.int .u8 (0:Int))++(hexL w).map fun (c:Nat)=>Value.int .u8 (c:Int))) ?_ ?_
 ·refine zma ?_
  unfold zhp
  refine iteT (by decide+kernel) (zqo ?_)
  rw [show IntKind.wrap .u64 (16:Int)=16 by decide]
  refine zcv2 (e.mono hle) ?_
  refine LoopW2.intro (fun u i k=>∃j:Nat,j≤15∧u=((w / 16^j:Nat):Int)∧i=((65-j:Nat):Int)∧Mv [b] h1 [b] k∧Blk k b (List.replicate (65-j) (Value.int .u8 (0:Int))++((hexL w).drop (16-j)).map fun (c:Nat)=>Value.int .u8 (c:Int))) (fun _ i _=>i.toNat)
   ⟨0,by omega,by rw [Nat.pow_zero,Nat.div_one],rfl,Mv.refl _ _,by rw [List.drop_of_length_le (by rw [zoj];omega)];simpa using kb⟩ ?_
  rintro _ _ k ⟨j,hj,rfl,rfl,mv,kb⟩
  have hlt:w / 16^j<18446744073709551616:=Nat.lt_of_le_of_lt (Nat.div_le_self _ _) hw
  have hd:w / 16^j%16<16:=Nat.mod_lt _ (by decide)
  have ei:IntKind.wrap .i64 (((65-j:Nat):Int)-1)=((64-j:Nat):Int):=by rw [zac (by omega) (by omega)];omega
  have hblk:List.replicate (65-j) (Value.int .u8 (0:Int))=List.replicate (64-j+1) (Value.int .u8 (0:Int)):=by rw [show 64-j+1=65-j by omega]
  rw [hblk] at kb
  have ea:Addr.add (⟨b,0,none⟩:Addr) (64-j)=⟨b,64-j,none⟩:=by rw [zak,Nat.zero_add]
  rw [ei,Int.toNat_natCast,Nat.mul_one,ea]
  have hsuf:∀d,d=w / 16^j%16→Value.int .u8 ((hexD d:Nat):Int)::((hexL w).drop (16-j)).map (fun (c:Nat)=>Value.int .u8 (c:Int))=((hexL w).drop (16-(j+1))).map fun (c:Nat)=>Value.int .u8 (c:Int):=fun d e=>by
   rw [zzl1 (by omega),e];rfl
  by_cases h16:16≤w / 16^j
  ·refine iteT (decide_eq_true (by omega)) ?_
   rw [show IntKind.wrap .u64 ((16:Int)-1)=15 by decide,and15 _ hlt,Int.toNat_natCast,zqq1 _ hd]
   have hj15:j<15:=by
    refine Classical.byContradiction fun hn=> ?_
    have:j=15:=by omega
    subst this
    omega
   refine ⟨⟨by omega,by omega⟩,⟨by omega,by omega⟩,put1 kb (by rw [List.length_append,List.length_replicate];omega) fun k2 m2 b2=>⟨by decide,?_⟩⟩
   rw [zqr1,hsuf _ rfl] at b2
   have es:shrI .u64 ((w / 16^j:Nat):Int) (IntKind.wrap .u64 (4:Int))=((w / 16^(j+1):Nat):Int):=by
    rw [show IntKind.wrap .u64 (4:Int)=((4:Nat):Int) by decide,shrN _ (by decide),show (2:Nat)^4=16 from rfl,Nat.div_div_eq_div_mul,Nat.pow_succ]
   rw [es]
   refine ⟨⟨j+1,by omega,rfl,by rw [show 65-(j+1)=64-j by omega],mv.trans m2,?_⟩,by omega⟩
   rw [show 65-(j+1)=64-j by omega]
   exact b2
  ·refine iteF (fun hh=>h16 (by have:=of_decide_eq_true hh;omega)) ?_
   have hj15:j=15:=by
    refine Classical.byContradiction fun hn=>h16 ?_
    have hp:=Nat.pow_le_pow_right (n:=16) (i:=j) (j:=14) (by decide) (by omega)
    rw [Nat.le_div_iff_mul_le (Nat.pow_pos (by decide))]
    have:=Nat.mul_le_mul_left 16 hp
    omega
   subst hj15
   rw [Nat.mod_eq_of_lt (by omega)] at hd hsuf
   rw [Int.toNat_natCast,zqq1 _ hd]
   refine ⟨⟨by omega,by omega⟩,⟨by omega,by omega⟩,put1 kb (by rw [List.length_append,List.length_replicate];omega) fun k2 m2 b2=>⟨rfl,mv.trans m2,?_⟩⟩
   rw [zqr1,hsuf _ rfl] at b2
   exact b2
 rintro _ k ⟨rfl,mv,kb⟩
 refine iteF (by decide) (iteF (by decide) ⟨by decide,letW ?_⟩)
 have eb:sbase (some ⟨b,0,none⟩) 1 (Int.toNat 49) 65=some ⟨b,49,none⟩:=by unfold sbase;rw [if_neg (by decide)];show some (Addr.add _ _)=_;rw [zak];rfl
 rw [eb]
 have hin:∀x∈hexL w,x<256:=fun x hx=>by
  unfold hexL at hx
  obtain ⟨i, -,rfl⟩:=List.mem_map.1 hx
  exact zwt1 (w / 16^(15-i)%16) (Nat.mod_lt _ (by decide))
 refine ⟨strN (hexL w),zof (e:=5) (l:=⟨some ⟨b,49,none⟩,65-Int.toNat 49,65-Int.toNat 49⟩) (tb_ok.und _ ty74 rfl) (tb_ok.und _ ty5 rfl) (tb_ok.und _ ty9 rfl) (zcz1 kb (by rw [zoj];rfl) ?_) hin,hk _ _ ?_⟩
 ·rw [List.drop_append_of_le_length (by simp),List.drop_of_length_le (by simp),List.nil_append,List.take_of_length_le (by rw [List.length_map];exact Nat.le_refl _),zgv1]
 ·exact fun c o hc=>mv.keep c o (hle c o hc) (by simp only [List.mem_singleton];intro e;rw [e,hb] at hc;cases hc)
theorem zsl1 {w:Nat} {Q:ByteArray→Hp→Prop} (e:PEnv h) (hw:w<18446744073709551616) (hw0:1152921504606846976≤w) (hk:∀h',h≤h'→Q (strN (hexL w)) h'):zvc Tryz.prog (w:Int) Q h:=by
 unfold zvc
 refine zvp ?_
 unfold zpr
 refine znd ?_
 unfold zio
 refine iteF (by decide) (zne (zjd1 e hw hw0 fun s h' hl=> ?_))
 dsimp only
 rw [zao,zoj]
 refine zzr ?_
 unfold zvv
 refine iteT (by decide) ⟨?_,?_⟩
 ·show 0+16≤_;decide
 ·have:=hk h' hl
  have e2:(⟨⟨List.append (⟨#[]⟩:ByteArray).data.toList (strN (hexL w)).data.toList⟩⟩:ByteArray)=strN (hexL w):=by
   show (⟨⟨[]++(strN (hexL w)).data.toList⟩⟩:ByteArray)=_
   rw [List.nil_append]
  rw [e2]
  exact this
theorem zzm1 {h0:Hp} {dst:Sl} {xs:List Nat} {neg:Bool} {Q:Sl→Hp→Prop} (hw:h0≤h) (o:ON h0 h dst xs) (hx:xs.length<1000)
  (hk:∀r h',h0≤h'→ON h0 h' r (xs++((if neg then [45] else [])++ [48,101,43,48,48]))→Q r h'):zcl Tryz.prog dst neg ⟨none,0,0⟩ (0:Int) (0:Int) (-1:Int) (101:Int) true Q h:=by
 unfold zcl
 refine JoinW2.direct (letW (iteF (by decide) (JoinW1.direct (iteT (by decide) (iteT (by decide) ?_)))))
 refine JoinW1.intro (fun d k=>h0≤k∧ON h0 k d (xs++if neg then [45] else [])) ?_ ?_
 ·cases neg with
  | true=>exact iteT rfl (app1 (c:=45) hw o rfl (by omega) fun l' h' hl' o'=>⟨hl',o'⟩)
  | false=>exact iteF (by decide) ⟨hw,by simpa using o⟩
 rintro d k ⟨lk,od⟩
 have hlen:(xs++if neg then [45] else []).length<1002:=by rw [List.length_append];split<;>simp<;>omega
 rw [←List.append_assoc] at hk
 generalize (xs++if neg then [45] else [])=ys at*
 refine JoinW1.direct (iteF (by decide) ?_)
 refine app1 (c:=48) lk od rfl (by omega) fun r1 k1 l1 o1=> ?_
 refine JoinW1.direct (iteF (by decide) ?_)
 refine app1 (c:=101) l1 o1 rfl (by rw [List.length_append,List.length_singleton];omega) fun r2 k2 l2 o2=> ?_
 refine JoinW1.direct (iteT (by decide) (JoinW2.direct (iteF (by decide) ?_)))
 refine app1 (c:=43) l2 o2 rfl (by rw [List.length_append,List.length_append];simp only [List.length_singleton];omega) fun r3 k3 l3 o3=>iteT (by decide) ?_
 refine app2 (c:=48) (d:=48) l3 o3 rfl (by decide) (by rw [List.length_append,List.length_append,List.length_append];simp only [List.length_singleton];omega) fun r4 k4 l4 o4=>hk r4 k4 l4 ?_
 simpa using o4
theorem zcn1 {w:Nat} {Q:ByteArray→Hp→Prop} (hw64:w<18446744073709551616) (w0:w%9223372036854775808=0) (hk:∀h',h≤h'→Q (strN ((if negD w then [45] else [])++ [48,101,43,48,48])) h'):
  zek Tryz.prog w (101:Int) (-1:Int) (64:Int) Q h:=by
 unfold zek
 refine zgq ?_
 unfold zel
 refine iteF (by decide) (iteT (by decide) ⟨by decide,fun b t hb=> ?_⟩)
 have hle:=znn (o:=.cells (zbs [Value.int .u8 (0:Int)] (max2I (IntKind.wrap .i64 ((-1:Int)+4)) 24).toNat).toArray t (0,0)) hb
 have own:ON h (h.set b (.cells (zbs [Value.int .u8 (0:Int)] (max2I (IntKind.wrap .i64 ((-1:Int)+4)) 24).toNat).toArray t (0,0))) ⟨some ⟨b,0,none⟩,(0:Int).toNat,(max2I (IntKind.wrap .i64 ((-1:Int)+4)) 24).toNat⟩ []:=
  ⟨rfl,Nat.zero_le _,.inr ⟨b,_,t,rfl,zmh,(by show (zbs [Value.int .u8 (0:Int)] (max2I (IntKind.wrap .i64 ((-1:Int)+4)) 24).toNat).length=(max2I (IntKind.wrap .i64 ((-1:Int)+4)) 24).toNat*1;decide),rfl,hb⟩⟩
 refine zjf ?_
 unfold zed
 refine JoinW4.direct ⟨(w:Int),rfl,⟨by decide,by decide,by decide,by decide,by decide,?_⟩⟩
 have zin:∀ {n:Bool},∀x∈((if n then [45] else [])++ [48,101,43,48,48]:List Nat),x<256:=fun {n} x hx=>by
  cases n<;>simp at hx<;>omega
 have hcase:w=0∨w=9223372036854775808:=by omega
 have fin:∀ {n:Bool} {r:Sl} {h':Hp},n=negD w→h≤h'→ON h h' r ([]++((if n then [45] else [])++ [48,101,43,48,48]))→∃x,SemIs Tryz.prog (convert 74 9 r.v) h' (.string x)∧Q x h':=fun {n r h'} hn hl o=>by
  subst hn
  rw [List.nil_append] at o
  exact ⟨_,zof (e:=5) (tb_ok.und _ ty74 rfl) (tb_ok.und _ ty5 rfl) (tb_ok.und _ ty9 rfl) (Own.rw o zow) zin,hk h' hl⟩
 rw [show IntKind.wrap .i64 ((shlI .i64 (1:Int) (11:Int))-(1:Int))=((2^11-1:Nat):Int) by decide,show IntKind.wrap .u64 ((shlI .u64 (1:Int) (52:Int))-(1:Int))=(4503599627370495:Int) by decide,show shlI .u64 (1:Int) (52:Int)=((1*2^52:Nat):Int) by decide,
  show IntKind.wrap .i64 ((11:Int)+(52:Int))=((63:Nat):Int) by decide,show (52:Int)=((52:Nat):Int) from rfl,shrN w (by decide),shrN w (by decide),zkt1 11 (by omega) (by decide),zin1 hw64]
 have hneg:(((w / 2^63:Nat):Int) !=(0:Int))=negD w:=by
  unfold negD
  by_cases c:9223372036854775808≤w
  ·rw [decide_eq_true c];exact bne_iff_ne.2 (by omega)
  ·rw [decide_eq_false c,Bool.eq_false_iff]
   intro hh
   exact bne_iff_ne.1 hh (by omega)
 rw [hneg,show w / 2^52%2^11=0 by omega,show w%4503599627370496=0 by omega]
 clear hneg hcase w0 hw64
 refine iteF (by decide) (JoinW2.direct (iteT (by decide) (iteF (by decide) (letW (iteF (by decide) (iteT rfl ?_))))))
 refine zjg (s:=⟨none,0,0⟩) ?_
 exact zzm1 hle own (by decide) fun r h' hl o=>fin rfl hl o
end
end Lf

namespace Lf
open Go Go.Proofs
section
variable {h:Hp}
theorem zxv {n:Int} {w:Nat} {Q:ByteArray→Hp→Prop} (hn:IntKind.wrap .u64 n=(w:Int)) (hw:w<18446744073709551616) (e:PEnv h) (hk:∀h' out,h≤h'→zcw w out→Q (strN out) h'):zlh Tryz.prog n Q h:=by
 have hf:zlc n=w:=by unfold zlc;rw [hn,Int.toNat_natCast]
 by_cases c1:9218868437227405312<w%9223372036854775808
 ·unfold zlh
  refine zkx (zap1 ?_)
  rw [hf]
  refine zeo (sh:=zag) (v:=isNaN w) rfl (iteT (by rw [zij1 hw];exact decide_eq_true c1) ?_)
  rw [hn]
  refine zcl1 (zsl1 e hw (by omega) fun h' hl=>⟨by rw [zao,zoj];decide,?_⟩)
  have e1:(⟨⟨110::(97::(110::(58::(strN (hexL w)).data.toList)))⟩⟩:ByteArray)=strN ([110,97,110,58]++hexL w):=by rw [←zji];rfl
  rw [e1]
  exact hk h' _ hl (by unfold zcw;rw [if_pos c1])
 by_cases c0:0<w%9223372036854775808∧w%9223372036854775808<9218868437227405312
 ·obtain ⟨f1,f2⟩:=zgy1 c0.1 c0.2
  refine zqk1 hf c0.1 c0.2 f1 (by omega) e.env.pow e.env.small fun h' out hl hp=>hk h' out hl ?_
  unfold zcw
  rw [if_neg c1,if_neg (by omega),if_neg (by omega)]
  exact zlf1 c0.1 c0.2 hp
 have nn:¬isNaN w=true:=by rw [zij1 hw];exact zoy c1
 unfold zlh
 refine zkx (zap1 ?_)
 rw [hf]
 refine zeo (sh:=zag) (v:=isNaN w) rfl (iteF nn ?_)
 have o1:=zvr (a:=w) (b:=9218868437227405311) hw (by omega) c1 (by omega)
 have o2:=zvr (a:=w) (b:=18442240474082181119) hw (by omega) c1 (by omega)
 have r1:rzD 9218868437227405311=9218868437227405311:=by unfold rzD negD;rw [decide_eq_false (by omega)];decide
 have r2:rzD 18442240474082181119= -9218868437227405311:=by unfold rzD negD;rw [decide_eq_true (by omega)];decide
 rw [r1] at o1
 rw [r2] at o2
 have gt_:∀ {x y:Int},y<x→compare x y=.gt:=fun {x y} h=>by rw [Int.compare_eq_gt];omega
 have lt_:∀ {x y:Int},x<y→compare x y=.lt:=fun {x y} h=>by rw [Int.compare_eq_lt];omega
 have hz:rzD w=if negD w then -((w%9223372036854775808:Nat):Int) else ((w%9223372036854775808:Nat):Int):=rfl
 by_cases c2:w%9223372036854775808=9218868437227405312
 ·rw [c2] at hz
  cases hb:negD w with
  | false=>
   rw [hb,if_neg (by decide)] at hz
   refine zeo (sh:=zag) (v:=f64.format.order w 9218868437227405311==some .gt) rfl (iteT ?_ ?_)
   ·show (dbl.order w 9218868437227405311==some .gt)=true
    rw [o1,gt_ (by rw [hz];decide)];rfl
   ·refine hk h [105,110,102] (Hp.le_refl _) ?_
    unfold zcw
    rw [if_neg c1,if_pos c2,hb];rfl
  | true=>
   rw [hb,if_pos rfl] at hz
   refine zeo (sh:=zag) (v:=f64.format.order w 9218868437227405311==some .gt) rfl (iteF (fun hh=> ?_) ?_)
   ·have hh:(dbl.order w 9218868437227405311==some .gt)=true:=hh
    rw [o1] at hh
    exact znn1 (by rw [hz];decide) (Option.some.inj (eq_of_beq hh))
   refine zeo (sh:=zag) (v:=f64.format.order w 18442240474082181119==some .lt) rfl (iteT ?_ ?_)
   ·show (dbl.order w 18442240474082181119==some .lt)=true
    rw [o2,lt_ (by rw [hz];decide)];rfl
   ·refine hk h [45,105,110,102] (Hp.le_refl _) ?_
    unfold zcw
    rw [if_neg c1,if_pos c2,hb];rfl
 ·have c3:w%9223372036854775808=0:=by omega
  rw [c3] at hz
  have hz0:rzD w=0:=by rw [hz];split<;>rfl
  refine zeo (sh:=zag) (v:=f64.format.order w 9218868437227405311==some .gt) rfl (iteF (fun hh=> ?_) ?_)
  ·have hh:(dbl.order w 9218868437227405311==some .gt)=true:=hh
   rw [o1] at hh
   exact znn1 (by rw [hz0];decide) (Option.some.inj (eq_of_beq hh))
  refine zeo (sh:=zag) (v:=f64.format.order w 18442240474082181119==some .lt) rfl (iteF (fun hh=> ?_) ?_)
  ·have hh:(dbl.order w 18442240474082181119==some .lt)=true:=hh
   rw [o2] at hh
   exact zwi1 (by rw [hz0];decide) (Option.some.inj (eq_of_beq hh))
  have hfin:zcw w ((if negD w then [45] else [])++ [48,101,48]):=by
   unfold zcw
   rw [if_neg c1,if_neg c2,if_pos c3]
  refine zlq (zcn1 hw c3 fun h1 l1=> ?_)
  have es:(if negD w then [45] else [])++ [48,101,43,48,48]=((if negD w then [45] else [])++ [48])++101:: [43,48,48]:=by simp
  rw [es]
  refine zvw (zar2 (c:=101) (by decide) ?_ (by simp) (by cases negD w<;>simp) ?_)
  ·intro x hx
   cases hb:negD w<;>rw [hb] at hx<;>simp at hx<;>omega
  refine zui (zwf1 (sg:=43) (zs:=[48,48]) (.inl rfl) (by decide) (by decide) (by decide) fun h2 er l2 _=> ?_)
  have e0:(if (43:Nat)=45 then -((numV [48,48]:Nat):Int) else ((numV [48,48]:Nat):Int))=0:=by decide
  rw [e0]
  have hsz:∀xs:List Nat,(⟨⟨List.append (strN xs).data.toList [101]⟩⟩:ByteArray)=strN (xs++ [101]):=fun xs=>by rw [←zji];rfl
  have hl2:((if negD w then [45] else [])++ [48]:List Nat).length≤2:=by cases negD w<;>simp
  refine ⟨by rw [zao];omega,zuj (zwd1 (by decide) (by decide) (zbd (Hp.le_trans l1 l2) e.env.small) fun zs h3 l3 hz3=> ?_)⟩
  have hzs:zs=[48]:=by
   have:=zle1 hz3
   rw [this,show Int.natAbs 0=0 from rfl,zha1 (by decide)]
  subst hzs
  rw [hsz]
  refine ⟨by rw [zao,zao,List.length_append];simp only [List.length_cons,List.length_nil];show _+_≤_;rw [show (signL 0++ [48]:List Nat).length=1 from rfl];omega,?_⟩
  have e3:(⟨⟨List.append (List.append (strN ((if negD w then [45] else [])++ [48])).data.toList [101]) (strN (signL 0++ [48])).data.toList⟩⟩:ByteArray)=strN ((if negD w then [45] else [])++ [48,101,48]):=by
   have e4:List.append (strN ((if negD w then [45] else [])++ [48])).data.toList [101]=(strN (((if negD w then [45] else [])++ [48])++ [101])).data.toList:=by rw [←zji ((if negD w then [45] else [])++ [48]) [101]];rfl
   rw [e4,zji]
   congr 1
   cases negD w<;>rfl
  rw [e3]
  exact hk h3 _ (Hp.le_trans l1 (Hp.le_trans l2 l3)) hfin
end
end Lf

namespace Lf
def WholeF (x m:Nat):Prop:=4503599627370496≤x∧x<9218868437227405312∧ -60≤zab x∧zab x≤60∧zaa x*2^(zab x+60).toNat=m*2^60
theorem zev1 {m:Nat} (m0:0<m) (m1:m<9007199254740992):WholeF (rungD m 0 false) m:=by
 have hb:=zog m
 have hl:2^(bitsN m-1)≤m:=by
  unfold bitsN
  rw [if_neg (by omega),Nat.add_sub_cancel]
  exact Nat.log2_self_le (by omega)
 have hb0:1≤bitsN m:=by unfold bitsN;rw [if_neg (by omega)];omega
 have hb1:bitsN m≤53:=by
  refine Classical.byContradiction fun hn=> ?_
  have:=Nat.pow_le_pow_right (n:=2) (i:=53) (j:=bitsN m-1) (by decide) (by omega)
  omega
 have ho:offD m 0=(bitsN m:Int)-53:=by
  unfold offD
  rw [if_neg (by omega)]
 obtain ⟨j,hj⟩:∃j:Nat,53=bitsN m+j:=⟨53-bitsN m,by omega⟩
 have hq:keptD m (offD m 0) false=m*2^j:=by
  unfold keptD
  rw [ho,if_pos (by omega),show (-((bitsN m:Int)-53)).toNat=j by omega]
 have q0:4503599627370496≤m*2^j:=by
  have:=Nat.mul_le_mul_right (2^j) hl
  rw [←Nat.pow_add,show bitsN m-1+j=52 by omega] at this
  exact this
 have q1:m*2^j<9007199254740992:=by
  have:=Nat.mul_lt_mul_of_pos_right hb (Nat.two_pow_pos j)
  rw [←Nat.pow_add,←hj] at this
  exact this
 have e:rungD m 0 false=(1075-j)*4503599627370496+(m*2^j-4503599627370496):=by
  have e0:rungD m 0 false=if keptD m (offD m 0) false<4503599627370496 then keptD m (offD m 0) false else if 2047≤0+offD m 0+1075 then 9218868437227405312 else min ((0+offD m 0+1075).toNat*4503599627370496+(keptD m (offD m 0) false-4503599627370496)) 9218868437227405312:=rfl
  rw [e0,hq]
  have hoj:offD m 0= -(j:Int):=by omega
  rw [hoj]
  clear hq ho e0 hoj hb hl hb0
  generalize m*2^j=q at*
  rw [if_neg (show ¬q<4503599627370496 by omega),if_neg (show ¬(2047:Int)≤0+ -(j:Int)+1075 by omega),show ((0:Int)+ -(j:Int)+1075).toNat=1075-j by omega]
  exact Nat.min_eq_left (by omega)
 have hx:¬rungD m 0 false<4503599627370496:=by omega
 have hd:rungD m 0 false / 4503599627370496=1075-j:=by omega
 have hr:rungD m 0 false%4503599627370496=m*2^j-4503599627370496:=by omega
 have hM:zaa (rungD m 0 false)=m*2^j:=by unfold zaa;rw [if_neg hx,hr];omega
 have hE:zab (rungD m 0 false)= -(j:Int):=by unfold zab;rw [if_neg hx,hd];omega
 refine ⟨by omega,by omega,by omega,by omega,?_⟩
 rw [hM,hE,Nat.mul_assoc,←Nat.pow_add,show j+(-(j:Int)+60).toNat=60 by omega]
theorem zsm1 :∀k,k<23→(decide (4503599627370496≤pow10F.getD k 0)&&decide (pow10F.getD k 0<9218868437227405312)&&decide (-60≤zab (pow10F.getD k 0))&&decide (zab (pow10F.getD k 0)≤60)&&decide (zaa (pow10F.getD k 0)*2^(zab (pow10F.getD k 0)+60).toNat=10^k*2^60))=true:=by decide+kernel
theorem zew1 {k x:Nat} (hx:pow10F[k]? =some x):WholeF x (10^k)∧k<23:=by
 have hk:k<23:=(List.getElem?_eq_some_iff.1 hx).1
 have:=zsm1 k hk
 rw [show pow10F.getD k 0=x by simp [List.getD,hx]] at this
 simp only [Bool.and_eq_true,decide_eq_true_eq] at this
 exact ⟨⟨this.1.1.1.1,this.1.1.1.2,this.1.1.2,this.1.2,this.2⟩,hk⟩
theorem WholeF.val {x m:Nat} (h:WholeF x m):zaa x*unitW (zab x) 0=m*unitW 0 0:=by
 obtain ⟨-, -,a,b,c⟩:=h
 have e1:=zcv (a:= -60) (b:=0) (n:=(zab x+60).toNat) (by omega)
 have e2:=zcv (a:= -60) (b:=0) (n:=60) (by omega)
 rw [show -60+((zab x+60).toNat:Int)=zab x by omega] at e1
 rw [show (-60:Int)+((60:Nat):Int)=0 by decide] at e2
 rw [←e1,←e2,←Nat.mul_assoc,←Nat.mul_assoc,c]
theorem WholeF.m {x m:Nat} (h:WholeF x m):4503599627370496≤zaa x∧zaa x<9007199254740992:=by
 obtain ⟨a, -⟩:=h
 unfold zaa
 rw [if_neg (by omega)]
 omega
theorem WholeF.one {x m:Nat} (h:WholeF x m):inF x (m*unitW 0 0)=true:=by
 rw [←h.val]
 obtain ⟨a,b,c, -⟩:=h
 have e3:zaa x*unitW (zab x) 0=vF x:=by
  unfold vF kF
  rw [←zhu 2 4 rfl (a:=zab x-2) (b:=zab x) (by omega) (by omega)]
  ac_rfl
 obtain ⟨v1,v2⟩:=v_in (r:=x) (by omega) b
 rw [e3]
 exact zap2 (by omega) (by omega) fun _=>⟨v1,v2⟩
section
variable {r x y m n:Nat}
theorem zzn1 (h1:0<r) (h2:r<9218868437227405312) (hx:WholeF x m) (hy:WholeF y n) (hin:inF r (m*n*unitW 0 0)=true):rungD (zaa x*zaa y) (zab x+zab y) false=r:=by
 have a:=hx.m
 have b:=hy.m
 refine znl1 h1 h2 (Nat.ne_of_gt (Nat.mul_pos (by omega) (by omega))) (by have:=hx.2.2.1;have:=hy.2.2.1;omega) ?_
 rw [show zaa x*zaa y*unitW (zab x+zab y) 0=m*n*unitW 0 0 from ?_]
 ·exact hin
 obtain ⟨-, -,a1, -,c1⟩:=hx
 obtain ⟨-, -,a2, -,c2⟩:=hy
 have e1:=zcv (a:= -120) (b:=0) (n:=(zab x+60).toNat+(zab y+60).toNat) (by omega)
 have e2:=zcv (a:= -120) (b:=0) (n:=60+60) (by omega)
 rw [show -120+(((zab x+60).toNat+(zab y+60).toNat:Nat):Int)=zab x+zab y by omega,Nat.pow_add] at e1
 rw [show (-120:Int)+((60+60:Nat):Int)=0 by decide,Nat.pow_add] at e2
 rw [←e1,←e2]
 generalize unitW (-120) 0=U
 generalize 2^(zab x+60).toNat=p1 at*
 generalize 2^(zab y+60).toNat=p2 at*
 generalize (2:Nat)^60=s at*
 rw [show zaa x*zaa y*(p1*p2*U)=(zaa x*p1)*(zaa y*p2)*U by ac_rfl,c1,c2]
 ac_rfl
theorem zhe1 {s:Bool} (h1:0<r) (h2:r<9218868437227405312) (hx:WholeF x m) (hy:WholeF y n) (hin:inF r (m*n*unitW 0 0)=true):mulD (sgn s+x) y=sgn s+r:=by
 have e:=zzn1 h1 h2 hx hy hin
 have a:=hx.m
 have b:=hy.m
 obtain ⟨x0,x1, -⟩:=hx
 obtain ⟨y0,y1, -⟩:=hy
 have hm:(sgn s+x)%9223372036854775808=x:=by unfold sgn;cases s<;>simp<;>omega
 have hn:negD (sgn s+x)=s:=by unfold negD sgn;cases s<;>simp<;>omega
 have hy2:y%9223372036854775808=y:=by omega
 have hny:negD y=false:=by unfold negD;rw [decide_eq_false (by omega)]
 have nx:¬zmi (sgn s+x)=true:=zoy (by rw [hm];omega)
 have ny:¬zmi y=true:=zoy (by rw [hy2];omega)
 unfold mulD
 dsimp only
 rw [hm,hy2,hn,hny,if_neg (fun h=>h.elim nx fun h=>h.elim ny fun h=>h.elim (fun h=>by omega) fun h=>by omega),if_neg (by omega)]
 unfold zia
 rw [if_neg (Nat.ne_of_gt (Nat.mul_pos (by omega) (by omega))),Bool.xor_false,e]
theorem zsn1 {s:Bool} {k:Nat} (h1:0<r) (h2:r<9218868437227405312) (hx:WholeF x m) (hy:WholeF y (10^k)) (hk:k≤22) (hin:inF r (m*unitW 0 (-(k:Int)))=true):divD (sgn s+x) y=sgn s+r:=by
 have a:=hx.m
 have b:=hy.m
 obtain ⟨x0,x1,a1,b1,c1⟩:=hx
 obtain ⟨y0,y1,a2,b2,c2⟩:=hy
 have hm:(sgn s+x)%9223372036854775808=x:=by unfold sgn;cases s<;>simp<;>omega
 have hn:negD (sgn s+x)=s:=by unfold negD sgn;cases s<;>simp<;>omega
 have hy2:y%9223372036854775808=y:=by omega
 have hny:negD y=false:=by unfold negD;rw [decide_eq_false (by omega)]
 have nx:¬zmi (sgn s+x)=true:=zoy (by rw [hm];omega)
 have ny:¬zmi y=true:=zoy (by rw [hy2];omega)
 have key:zaa x*2^128*unitW (zab x-zab y-128) 0=zaa y*(m*unitW 0 (-(k:Int))):=by
  have e1:=zcv (a:=zab x-zab y-128) (b:=0) (n:=128) (by omega)
  rw [show zab x-zab y-128+((128:Nat):Int)=zab x-zab y by omega] at e1
  have e2:=zcv (a:=zab x-zab y) (b:=0) (n:=(zab y+60).toNat) (by omega)
  rw [show zab x-zab y+((zab y+60).toNat:Int)=zab x+60 by omega] at e2
  have e3:=zcv (a:=0) (b:=0) (n:=(zab x+60).toNat) (by omega)
  rw [show (0:Int)+((zab x+60).toNat:Int)=zab x+60 by omega] at e3
  have e4:=zfy (a:=0) (b:= -(k:Int)) (n:=k) (by omega)
  rw [show -(k:Int)+(k:Int)=0 by omega] at e4
  refine Nat.eq_of_mul_eq_mul_left (Nat.two_pow_pos (zab y+60).toNat) ?_
  rw [Nat.mul_assoc,e1]
  rw [show 2^(zab y+60).toNat*(zaa x*unitW (zab x-zab y) 0)=zaa x*(2^(zab y+60).toNat*unitW (zab x-zab y) 0) by ac_rfl,e2,←e3,←Nat.mul_assoc,c1]
  rw [show 2^(zab y+60).toNat*(zaa y*(m*unitW 0 (-(k:Int))))=(zaa y*2^(zab y+60).toNat)*(m*unitW 0 (-(k:Int))) by ac_rfl,c2,←e4]
  ac_rfl
 have hq:1152921504606846976≤zaa x*2^128 / zaa y:=by
  rw [Nat.le_div_iff_mul_le (by omega)]
  exact Nat.le_trans (Nat.mul_le_mul_left _ (Nat.le_of_lt b.2)) (Nat.le_trans (show (1152921504606846976:Nat)*9007199254740992≤4503599627370496*2^128 by decide) (Nat.mul_le_mul_right _ a.1))
 have hB:0<zaa y:=by omega
 have hdm:=Nat.div_add_mod (zaa x*2^128) (zaa y)
 have hlt:=Nat.mod_lt (zaa x*2^128) hB
 have e:rungD (zaa x*2^128 / zaa y) (zab x-zab y-128) (decide (0<zaa x*2^128%zaa y))=r:=by
  generalize zaa x*2^128 / zaa y=q at*
  generalize zaa x*2^128%zaa y=z at*
  generalize hX:m*unitW 0 (-(k:Int))=X at*
  have hU:=zbn (zab x-zab y-128) 0
  rw [←hdm] at key
  by_cases hz:z=0
  ·rw [decide_eq_false (by omega)]
   refine znl1 h1 h2 (by omega) (by omega) ?_
   rw [show q*unitW (zab x-zab y-128) 0=X from ?_]
   ·exact hin
   refine Nat.eq_of_mul_eq_mul_left hB ?_
   rw [←key,hz,Nat.add_zero,Nat.mul_assoc]
  ·rw [decide_eq_true (by omega)]
   refine zcn2 (X:=X) h1 h2 hq (by omega) ?_ ?_ hin
   ·refine Nat.lt_of_mul_lt_mul_left (a:=zaa y) ?_
    rw [←key,Nat.add_mul,←Nat.mul_assoc]
    have:=Nat.mul_pos (show 0<z by omega) hU
    omega
   ·refine Nat.lt_of_mul_lt_mul_left (a:=zaa y) ?_
    rw [←key,←Nat.mul_assoc,Nat.mul_add,Nat.mul_one]
    exact Nat.mul_lt_mul_of_pos_right (by omega) hU
 unfold divD
 dsimp only
 rw [hm,hy2,hn,hny,if_neg (fun h=>h.elim nx fun h=>h.elim ny fun h=>h.elim (fun h=>by omega) fun h=>by omega),if_neg (by omega),if_neg (by omega)]
 unfold zia
 rw [if_neg (Nat.ne_of_gt (Nat.lt_of_lt_of_le (by decide) hq)),Bool.xor_false,e]
theorem zwy1 (hx:WholeF x m) (hy:WholeF y n) (h0:0<m*n) (hle:m*n≤1000000000000000):∃z,WholeF z (m*n)∧∀s,mulD (sgn s+x) y=sgn s+z:=by
 have hz:=zev1 h0 (by omega)
 exact ⟨_,hz,fun s=>zhe1 (by have:=hz.1;omega) hz.2.1 hx hy hz.one⟩
theorem zwz1 (hx:WholeF x m) (hy:WholeF y n) (hgt:1000000000000000<m*n):4831355200913801216<rungD (zaa x*zaa y) (zab x+zab y) false:=by
 have e:rungD 1000000000000001 0 false=4831355200913801224:=by decide+kernel
 have a:=hx.m
 have b:=hy.m
 obtain ⟨-, -,a1, -,c1⟩:=hx
 obtain ⟨-, -,a2, -,c2⟩:=hy
 have:=zvv1 (m:=1000000000000001) (n:=zaa x*zaa y) (e:=0) (f:=zab x+zab y) (K:=0) (by decide) (Nat.ne_of_gt (Nat.mul_pos (by omega) (by omega))) (by omega) (by omega) (by
  obtain ⟨T,hT⟩:∃T:Nat,T=954:=⟨_,rfl⟩
  rw [show ((0:Int)+1074+((0:Nat):Int)).toNat=60+60+T by omega,show (zab x+zab y+1074+((0:Nat):Int)).toNat=(zab x+60).toNat+(zab y+60).toNat+T by omega,Nat.pow_add,Nat.pow_add,Nat.pow_add,Nat.pow_add]
  generalize 2^(zab x+60).toNat=p1 at*
  generalize 2^(zab y+60).toNat=p2 at*
  generalize (2:Nat)^60=s at*
  generalize (2:Nat)^T=t at*
  rw [show zaa x*zaa y*(p1*p2*t)=(zaa x*p1)*(zaa y*p2)*t by ac_rfl,c1,c2,show m*s*(n*s)*t=m*n*(s*s*t) by ac_rfl]
  exact Nat.mul_le_mul_right _ (by omega))
 omega
end
end Lf

namespace Lf
open Go Go.Proofs
theorem zcw2 (a n:Nat):a&&&2^n=if a / 2^n%2=1 then 2^n else 0:=by
 refine Nat.eq_of_testBit_eq fun i=> ?_
 rw [Nat.testBit_and,Nat.testBit_two_pow]
 by_cases hi:n=i
 ·subst hi
  rw [decide_eq_true rfl,Bool.and_true,Nat.testBit_eq_decide_div_mod_eq]
  by_cases h:a / 2^n%2=1
  ·rw [if_pos h,decide_eq_true h];exact (Nat.testBit_two_pow_self (n:=n)).symm
  ·rw [if_neg h,decide_eq_false h,Nat.zero_testBit]
 ·rw [decide_eq_false hi,Bool.and_false]
  by_cases h:a / 2^n%2=1
  ·rw [if_pos h,Nat.testBit_two_pow,decide_eq_false hi]
  ·rw [if_neg h,Nat.zero_testBit]
theorem and52 {a:Nat} (ha:a<18446744073709551616):(bitsI .and .u64 (a:Int) (4503599627370496:Int)==0)=decide (a / 4503599627370496%2=0):=by
 unfold bitsI
 dsimp only
 rw [zoh,BitVec.toNat_and,zka ha,show (BitVec.ofInt 64 4503599627370496).toNat=2^52 by decide,zcw2]
 by_cases h:a / 2^52%2=1
 ·rw [if_pos h,decide_eq_false (by omega)];decide
 ·rw [if_neg h,decide_eq_true (by omega)];decide
theorem zzo1 {s f:Nat} (hs:s=0∨s=9223372036854775808) (hf:f<4503599627370496):bitsI .andNot .u64 ((s+(4503599627370496+f):Nat):Int) (4503599627370496:Int)=((s+f:Nat):Int):=by
 unfold bitsI
 dsimp only
 have ha:s+(4503599627370496+f)<18446744073709551616:=by omega
 rw [zoh,BitVec.toNat_and,zka ha,show (~~~ BitVec.ofInt 64 4503599627370496).toNat=2^53*(2^11-1)+(2^52-1) by decide]
 have key:(s+(4503599627370496+f))&&&(2^53*(2^11-1)+(2^52-1))=s+f:=by
  have h1:=Nat.and_div_two_pow (a:=s+(4503599627370496+f)) (b:=2^53*(2^11-1)+(2^52-1)) (n:=53)
  have h2:=Nat.and_mod_two_pow (a:=s+(4503599627370496+f)) (b:=2^53*(2^11-1)+(2^52-1)) (n:=53)
  rw [show (2^53*(2^11-1)+(2^52-1)) / 2^53=2^11-1 by decide,Nat.and_two_pow_sub_one_eq_mod] at h1
  rw [show (2^53*(2^11-1)+(2^52-1))%2^53=2^52-1 by decide,Nat.and_two_pow_sub_one_eq_mod] at h2
  generalize (s+(4503599627370496+f))&&&(2^53*(2^11-1)+(2^52-1))=z at*
  omega
 rw [key,zah]
 omega
theorem znv1 (s:Int):∃n:Nat,n<64∧bitsI .and .i64 s (63:Int)=(n:Int):=by
 refine ⟨((BitVec.ofInt 64 s)&&&(BitVec.ofInt 64 63)).toNat,?_,?_⟩
 ·rw [BitVec.toNat_and,show (BitVec.ofInt 64 63).toNat=2^6-1 by decide,Nat.and_two_pow_sub_one_eq_mod]
  exact Nat.mod_lt _ (by decide)
 ·have:((BitVec.ofInt 64 s)&&&(BitVec.ofInt 64 63)).toNat<64:=by
   rw [BitVec.toNat_and,show (BitVec.ofInt 64 63).toNat=2^6-1 by decide,Nat.and_two_pow_sub_one_eq_mod]
   exact Nat.mod_lt _ (by decide)
  show IntKind.wrap .i64 ((((BitVec.ofInt 64 s)&&&(BitVec.ofInt 64 63)).toNat:Nat):Int)=_
  exact zac (by omega) (by omega)
section
variable {h:Hp}
theorem zci1 {b:Nat} {x0 x1 x2:Value} {e p lp:Int} {Q:Hp→Prop} (k:Blk h b [x0,x1,x2]) (t:Pow10 h) (hb:b≠8) (h0: -348≤p) (h1:p≤347) (hl:lp=log2P p) (he: -5000≤e∧e≤5000)
  (hk:∀h',Mv [b] h [b] h'→Blk h' b [.int .u64 (hiP p:Int),.int .u64 (loP p:Int),.int .i64 (-(e+lp+3))]→Q h'):zcb Tryz.prog (some ⟨b,0,none⟩) e p lp Q h:=by
 unfold zcb
 have hlp: -1200≤lp∧lp≤1200:=by subst hl;unfold log2P;omega
 have e1:IntKind.wrap .i64 (p-(-348:Int))=p+348:=by rw [zac (by omega) (by omega)];omega
 have e2:IntKind.wrap .i64 ((0:Int)-(IntKind.wrap .i64 ((IntKind.wrap .i64 (e+lp))+(3:Int))))= -(e+lp+3):=by
  rw [zac (n:=e+lp) (by omega) (by omega),zac (n:=e+lp+3) (by omega) (by omega),zac (by omega) (by omega)]
  omega
 rw [e1,e2]
 obtain ⟨c1,c2⟩:=zcu1 t h0 h1
 have a1:Addr.add (Addr.add ⟨8,0,none⟩ ((p+348).toNat*2)) 0=⟨8,(p+348).toNat*2,none⟩:=by rw [zak,zak];simp
 have a2:Addr.add (Addr.add ⟨8,0,none⟩ ((p+348).toNat*2)) 1=⟨8,(p+348).toNat*2+1,none⟩:=by rw [zak,zak];simp
 rw [a1,a2]
 refine ⟨⟨by omega,by omega⟩,ld_at (sh:=shInt .u64) (hiP p:Int) c1 (zaf ?_)⟩
 refine put1 (i:=0) k (by simp) fun k1 m1 b1=> ?_
 have c2':=zvh1 c2 m1 (by simpa using Ne.symm hb)
 refine ⟨⟨by omega,by omega⟩,ld_at (sh:=shInt .u64) (loP p:Int) c2' (zaf ?_)⟩
 refine put1 (i:=1) b1 (by simp) fun k2 m2 b2=> ?_
 refine zaf (put1 (i:=2) b2 (by simp) fun k3 m3 b3=> ?_)
 exact hk k3 (m1.trans (m2.trans m3)) b3
theorem zso1 {x hi lo b:Nat} {s:Int} {Q:Int→Hp→Prop} (hx:x<18446744073709551616) (hh:hi<18446744073709551616) (hl:lo<18446744073709551616)
  (k:Blk h b [.int .u64 (hi:Int),.int .u64 (lo:Int),.int .i64 s]) (hq:∀u:Nat,u<18446744073709551616→Q (u:Int) h):zcm Tryz.prog x (some ⟨b,0,none⟩) Q h:=by
 unfold zcm
 have fin:∀x:Int,(∃u:Nat,x=(u:Int)∧u<18446744073709551616)→Q x h:=fun x ⟨u,e,hu⟩=>e▸hq u hu
 refine zaf (ld_at (sh:=shInt .u64) (hi:Int) (k.ldIs (off:=0) (n:=1) rfl) (zha (zct1 hx hh ?_)))
 refine zaf (ld_at (sh:=shInt .i64) s (k.ldIs (off:=2) (n:=1) rfl) ?_)
 obtain ⟨n,hn,e⟩:=znv1 s
 rw [e]
 refine ⟨by omega,by omega,iteB (fun _=>⟨by omega,fin _ (zaz _ _ _)⟩) fun _=> ?_⟩
 refine zaf (ld_at (sh:=shInt .u64) (lo:Int) (k.ldIs (off:=1) (n:=1) rfl) (zha (zct1 hx hl ?_)))
 refine zan (zxo ⟨by omega,?_⟩)
 exact zan (zxo (fin _ (zaz _ _ _)))
theorem zhc {m:Int} {n:Nat} {K:Nat→Hp→Prop} (e:m=(n:Int)) (hn:n<18446744073709551616) (hk:K n h):SemE Tryz.prog (Extern.MathFloatBits.float64frombits #[(.int .u64 m)]) (shFlt .f64) K h:=by
 subst e
 refine ⟨n,?_,hk⟩
 show Value.float .f64 ((n:Int)).toNat=_
 rw [Int.toNat_natCast]
theorem zsp1 {m e:Int} {Q:Nat→Leaf→Hp→Prop} (hm:∃n:Nat,m=(n:Int)∧n<18446744073709551616) (hq:∀(f:Nat) (er:Leaf),(er.v=.nilIface∨er.v=.iface 122 (.int .i64 (1:Int)))→Q f er h):zco Tryz.prog m e Q h:=by
 unfold zco
 obtain ⟨n,rfl,hn⟩:=hm
 refine iteB (fun _=>zhc rfl hn ⟨⟨.nilIface,rfl⟩,rfl,hq _ _ (.inl rfl)⟩) fun _=>iteB (fun _=> ?_) fun _=>⟨by decide,?_⟩
 ·obtain ⟨u,e1,hu⟩:=zaz .or (bitsI .and .u64 (n:Int) (9223372036854775808:Int)) (9218868437227405312:Int)
  exact zhc e1 hu ⟨⟨.iface 122 (.int .i64 1),rfl⟩,rfl,hq _ _ (.inr rfl)⟩
 ·obtain ⟨u,e1,hu⟩:=zaz .or (bitsI .andNot .u64 (n:Int) (4503599627370496:Int)) (shlI .u64 (IntKind.wrap .u64 (IntKind.wrap .i64 ((1075:Int)+e))) (52:Int))
  exact zhc e1 hu ⟨⟨.nilIface,rfl⟩,rfl,hq _ _ (.inl rfl)⟩
theorem zll1 {r:Nat} {s:Bool} {Q:Nat→Leaf→Hp→Prop} (h1:0<r) (h2:r<9218868437227405312) (hq:∀er:Leaf,er.v=.nilIface→Q (sgn s+r) er h):zco Tryz.prog ((sgn s+zaa r:Nat):Int) (zab r) Q h:=by
 unfold zco
 have hs:=zlc1 s
 by_cases hr:r<4503599627370496
 ·have hM:zaa r=r:=by unfold zaa;rw [if_pos hr]
  rw [hM]
  refine iteT ?_ (zhc rfl (by omega) ⟨⟨.nilIface,rfl⟩,rfl,hq _ rfl⟩)
  rw [and52 (by omega)]
  exact decide_eq_true (by omega)
 ·have hM:zaa r=4503599627370496+r%4503599627370496:=by unfold zaa;rw [if_neg hr];omega
  have hE:zab r=((r / 4503599627370496:Nat):Int)-1075:=by unfold zab;rw [if_neg hr]
  rw [hM,hE]
  refine iteF ?_ (iteF (fun hh=>by have:=of_decide_eq_true hh;omega) ⟨by decide,?_⟩)
  ·rw [and52 (by omega)]
   intro hh
   have:=of_decide_eq_true hh
   omega
  ·have e1:IntKind.wrap .u64 (IntKind.wrap .i64 ((1075:Int)+(((r / 4503599627370496:Nat):Int)-1075)))=((r / 4503599627370496:Nat):Int):=by rw [zac (by omega) (by omega),zah];omega
   have e2:shlI .u64 ((r / 4503599627370496:Nat):Int) (52:Int)=((r / 4503599627370496*2^52:Nat):Int):=shlN (n:=52) (by decide) (by omega)
   rw [e1,e2,zzo1 hs (Nat.mod_lt _ (by decide))]
   have e3:bitsI .or .u64 ((sgn s+r%4503599627370496:Nat):Int) ((r / 4503599627370496*2^52:Nat):Int)=((sgn s+r:Nat):Int):=by
    have a1:=zei1 (k:=.u64) (a:=r / 4503599627370496) (s:=52) (v:=r%4503599627370496) (.inl ⟨rfl,by omega⟩) (Nat.mod_lt _ (by decide))
    rw [show r / 4503599627370496*2^52+r%4503599627370496=r by omega] at a1
    have a2:=zim1 (s:=s) (a:=r) (by omega)
    have a3:=zim1 (s:=s) (a:=r%4503599627370496) (by omega)
    have f:∀ {x y:Nat},x<18446744073709551616→y<18446744073709551616→bitsI .or .u64 (x:Int) (y:Int)=((x ||| y:Nat):Int):=fun hx hy=>orN hx hy
    have a0:=Nat.div_mul_le_self r (2^52)
    rw [f (by omega) (by omega)] at a1 a2 a3 ⊢
    have b1:=Int.ofNat.inj a1
    have b2:=Int.ofNat.inj a2
    have b3:=Int.ofNat.inj a3
    rw [←b3,Nat.or_assoc,Nat.or_comm (r%4503599627370496),b1,b2]
   exact zhc e3 (by omega) ⟨⟨.nilIface,rfl⟩,rfl,hq _ rfl⟩
end
end Lf

namespace Lf
open Go Go.Proofs
theorem zdu2 (u:Nat):u ||| u%2=u:=by
 refine Nat.eq_of_testBit_eq fun i=> ?_
 rw [Nat.testBit_or]
 cases i with
 | zero=>simp
 | succ i=>
  rw [Nat.testBit_succ (u%2),show u%2 / 2=0 by omega,Nat.zero_testBit,Bool.or_false]
section
variable {h:Hp}
theorem and1 {u:Nat} (hu:u<18446744073709551616):bitsI .and .u64 (u:Int) (1:Int)=((u%2:Nat):Int):=by
 unfold bitsI
 dsimp only
 rw [zoh,BitVec.toNat_and,zka hu,show (BitVec.ofInt 64 1).toNat=2^1-1 by decide,Nat.and_two_pow_sub_one_eq_mod,zah]
 omega
theorem zqs1 {Q:Int→Hp→Prop} (hq:Q 36028797018963966 h):zhq Tryz.prog (9007199254740992:Int) Q h:=by
 unfold zhq
 exact ⟨by decide,hq⟩
abbrev ErOk (er:Leaf):Prop:=er.v=.nilIface∨er.v=.iface 122 (.int .i64 (1:Int))
theorem zdv2 {d:Nat} (hd:d<18446744073709551616):bitsN d≤64:=zip1 (by omega)
theorem zex1 {d sg:Nat} {p:Int} {Q:Nat→Leaf→Hp→Prop} (t:Pow10 h) (hd:d<18446744073709551616) (hsg:sg<18446744073709551616) (h0: -348≤p) (h1:p≤347) (hq:∀(f:Nat) (er:Leaf) h',h≤h'→ErOk er→Q f er h'):
  zbj Tryz.prog (d:Int) p (sg:Int) Q h:=by
 have hb:=zdv2 hd
 have hl: -1200≤log2P p∧log2P p≤1200:=by unfold log2P;omega
 unfold zbj
 refine zhb (zcx1 hd ?_)
 refine zec (zng1 (by omega) (by omega) ?_)
 intro b ty hbn
 have hle:=znn (o:=.cells [Value.int .u64 (0:Int),.int .u64 (0:Int),.int .i64 (0:Int)].toArray ty (0,0)) hbn
 have kb:Blk (h.set b (.cells [Value.int .u64 (0:Int),.int .u64 (0:Int),.int .i64 (0:Int)].toArray ty (0,0))) b [.int .u64 (0:Int),.int .u64 (0:Int),.int .i64 (0:Int)]:=⟨ty,zmh⟩
 generalize h.set b (.cells [Value.int .u64 (0:Int),.int .u64 (0:Int),.int .i64 (0:Int)].toArray ty (0,0))=k1 at*
 have hbg:b≠8:=fun e=>by
  obtain ⟨c1, -⟩:=zcu1 t h0 h1
  have:=c1 0 _ rfl
  rw [zak] at this
  unfold hcell at this
  rw [←e,hbn] at this
  simp at this
 have back:∀ {k':Hp},Mv [b] k1 [b] k'→h≤k':=fun mv c o hc=>mv.keep c o (hle c o hc) (by simp only [List.mem_singleton];intro e;rw [e,hbn] at hc;cases hc)
 have emin:IntKind.wrap .i64 ((IntKind.wrap .i64 ((53:Int)-(bitsN d:Int)))-log2P p)=53-(bitsN d:Int)-log2P p:=by rw [zac (n:=(53:Int)-_) (by omega) (by omega),zac (by omega) (by omega)]
 have e64:IntKind.wrap .i64 ((64:Int)-(bitsN d:Int))=((64-bitsN d:Nat):Int):=by rw [zac (by omega) (by omega)];omega
 rw [emin,e64]
 obtain ⟨E,hE⟩:∃E,E=min2I (1074:Int) (53-(bitsN d:Int)-log2P p):=⟨_,rfl⟩
 have hEb: -3000≤E∧E≤1074:=by rw [hE];unfold min2I;split<;>omega
 rw [←hE,zac (n:=E-((64-bitsN d:Nat):Int)) (by omega) (by omega)]
 refine zen (zci1 kb (fun i v hv=>zye hle (t i v hv)) hbg h0 h1 rfl (by omega) fun k2 m2 b2=> ?_)
 refine ld_at (sh:=shInt .i64) (-(E-((64-bitsN d:Nat):Int)+log2P p+3)) ?_ ?_
 ·rw [zak]
  exact b2.ldIs (off:=2) (n:=1) rfl
 have fb:∀ {x:Int} {K:Nat→Hp→Prop} {k:Hp},(∃n:Nat,x=(n:Int)∧n<18446744073709551616)→(∀f,K f k)→SemE Tryz.prog (Extern.MathFloatBits.float64frombits #[(.int .u64 x)]) (shFlt .f64) K k:=fun ⟨n,e,hn⟩ hK=>zhc e hn (hK _)
 refine iteB (fun _=>fb (zaz _ _ _) fun f=>⟨⟨.nilIface,rfl⟩,rfl,hq f _ k2 (back m2) (.inl rfl)⟩) fun _=>⟨by omega,?_⟩
 obtain ⟨x,ex,hx⟩:∃x:Nat,shlI .u64 (d:Int) ((64-bitsN d:Nat):Int)=(x:Int)∧x<18446744073709551616:=by
  refine ⟨(shlI .u64 (d:Int) ((64-bitsN d:Nat):Int)).toNat,?_,?_⟩<;>(unfold shlI;rw [zah];omega)
 rw [ex]
 obtain ⟨t1,t2,t3⟩:=zgq1 h0 h1
 refine zfm (zso1 hx t2 t3 b2 fun u hu=> ?_)
 refine zjy (zqs1 ?_)
 refine zeb (zir1 ⟨by omega,?_⟩)
 obtain ⟨v,ev,hv⟩:=zaz .or (shrI .u64 (u:Int) (((decide ((u:Int)≥36028797018963966)).toNat:Nat):Int)) (bitsI .and .u64 (u:Int) (1:Int))
 rw [ev]
 refine zbf (zcv1 hv ?_)
 exact zfn (zsp1 (zaz _ _ _) fun f er he=>⟨er,rfl,hq f er k2 (back m2) he⟩)
theorem zsq1 {r d:Nat} {s:Bool} {p:Int} {Q:Nat→Leaf→Hp→Prop} (t:Pow10 h) (h1:0<r) (h2:r<9218868437227405312) (hd:d<144115188075855872) (d0:0<d) (p0: -348≤p) (p1:p≤347) (hin:inF r (d*unitW 0 p)=true)
  (hq:∀(er:Leaf) h',h≤h'→er.v=.nilIface→Q (sgn s+r) er h'):zbj Tryz.prog (d:Int) p ((sgn s:Nat):Int) Q h:=by
 have hb:bitsN d≤57:=zip1 (by omega)
 have hb1:1≤bitsN d:=by unfold bitsN;rw [if_neg (by omega)];omega
 have hlo:=zsk (m:=d) (by omega)
 have hhi:=zog d
 obtain ⟨rs,rm,rx⟩:=zch2 h1 h2 p0 p1 hb hb1 hlo hhi hin
 obtain ⟨s8,sc⟩:=zsd1 p0 p1 hb hlo hhi hb1 rs
 have hl: -1200≤log2P p∧log2P p≤1200:=by unfold log2P;omega
 have hE:readE (bitsN d) p=min2I (1074:Int) (53-(bitsN d:Int)-log2P p):=by unfold readE min2I;omega
 have hEb: -3000≤readE (bitsN d) p∧readE (bitsN d) p≤1074:=by unfold readE;omega
 unfold zbj
 refine zhb (zcx1 (by omega) ?_)
 refine zec (zng1 (by omega) (by omega) ?_)
 intro b ty hbn
 have hle:=znn (o:=.cells [Value.int .u64 (0:Int),.int .u64 (0:Int),.int .i64 (0:Int)].toArray ty (0,0)) hbn
 have kb:Blk (h.set b (.cells [Value.int .u64 (0:Int),.int .u64 (0:Int),.int .i64 (0:Int)].toArray ty (0,0))) b [.int .u64 (0:Int),.int .u64 (0:Int),.int .i64 (0:Int)]:=⟨ty,zmh⟩
 generalize h.set b (.cells [Value.int .u64 (0:Int),.int .u64 (0:Int),.int .i64 (0:Int)].toArray ty (0,0))=k1 at*
 have hbg:b≠8:=fun e=>by
  obtain ⟨c1, -⟩:=zcu1 t p0 p1
  have:=c1 0 _ rfl
  rw [zak] at this
  unfold hcell at this
  rw [←e,hbn] at this
  simp at this
 have back:∀ {k':Hp},Mv [b] k1 [b] k'→h≤k':=fun mv c o hc=>mv.keep c o (hle c o hc) (by simp only [List.mem_singleton];intro e;rw [e,hbn] at hc;cases hc)
 have emin:IntKind.wrap .i64 ((IntKind.wrap .i64 ((53:Int)-(bitsN d:Int)))-log2P p)=53-(bitsN d:Int)-log2P p:=by rw [zac (n:=(53:Int)-_) (by omega) (by omega),zac (by omega) (by omega)]
 have e64:IntKind.wrap .i64 ((64:Int)-(bitsN d:Int))=((64-bitsN d:Nat):Int):=by rw [zac (by omega) (by omega)];omega
 rw [emin,e64,←hE,zac (n:=readE (bitsN d) p-((64-bitsN d:Nat):Int)) (by omega) (by omega)]
 have hS: -(readE (bitsN d) p-((64-bitsN d:Nat):Int)+log2P p+3)=readS (bitsN d) p:=by unfold readS;omega
 refine zen (zci1 kb (fun i v hv=>zye hle (t i v hv)) hbg p0 p1 rfl (by omega) fun k2 m2 b2=> ?_)
 rw [hS] at b2
 refine ld_at (sh:=shInt .i64) (readS (bitsN d) p) ?_ (iteF (fun hh=>by have h9:readS (bitsN d) p≥64:=of_decide_eq_true hh;omega) ⟨by omega,?_⟩)
 ·rw [zak]
  exact b2.ldIs (off:=2) (n:=1) rfl
 obtain ⟨j,hj⟩:∃j,64=bitsN d+j:=⟨64-bitsN d,by omega⟩
 have ej:64-bitsN d=j:=by omega
 have hx:d*2^j<18446744073709551616:=by
  have:=Nat.mul_lt_mul_of_pos_right hhi (Nat.two_pow_pos j)
  rw [←Nat.pow_add,←hj] at this
  exact this
 have hx0:2305843009213693952≤d*2^j:=by
  have:=Nat.mul_le_mul_right (2^j) hlo
  rw [←Nat.pow_add,show bitsN d-1+j=63 by omega] at this
  exact Nat.le_trans (by decide) this
 rw [ej] at sc ⊢
 rw [shlN (by omega) hx]
 obtain ⟨t1,t2,t3⟩:=zgq1 p0 p1
 have b3:Scl k2 b (hiP p) (loP p) (readS (bitsN d) p).toNat:=by
  unfold Scl
  rw [show (((readS (bitsN d) p).toNat:Nat):Int)=readS (bitsN d) p by omega]
  exact b2
 refine zfm (zkm1 hx t2 t3 (by omega) (zcw1 hx0 t1) b3 ?_)
 have hu:=zgs1 (lo:=loP p) (s:=(readS (bitsN d) p).toNat) hx t2
 rw [←sc] at rm rx
 generalize ztl (d*2^j) (hiP p) (loP p) (readS (bitsN d) p).toNat=u at*
 refine zjy (zqs1 ?_)
 refine zeb (zir1 ⟨by omega,?_⟩)
 rw [and1 hu]
 have hpr:∀k,h≤k→(∀(er:Leaf),er.v=.nilIface→EncW zal er.v fun e=>Q (sgn s+r) e k):=fun k hl er he=>⟨er,rfl,hq er k hl he⟩
 have hMb:zaa r<9007199254740992:=by unfold zaa;split<;>omega
 have fin:bitsI .or .u64 ((sgn s:Nat):Int) ((zaa r:Nat):Int)=((sgn s+zaa r:Nat):Int):=zim1 (by omega)
 unfold readM at rm
 unfold readX at rx
 by_cases c:36028797018963966≤u
 ·rw [if_pos c] at rm rx
  rw [decide_eq_true (show (u:Int)≥36028797018963966 by omega)]
  have e1:shrI .u64 (u:Int) (((true.toNat:Nat):Int))=((u / 2:Nat):Int):=shrN u (n:=1) (by decide)
  rw [e1,orN (Nat.lt_of_le_of_lt (Nat.div_le_self _ _) hu) (by omega)]
  refine zbf (zcv1 (Nat.or_lt_two_pow (n:=64) (Nat.lt_of_le_of_lt (Nat.div_le_self _ _) hu) (by omega)) ?_)
  rw [rm,fin,show (((true.toNat:Nat):Int))=1 from rfl,zac (n:=readE (bitsN d) p-1) (by omega) (by omega),zac (by omega) (by omega),show (0:Int)-(readE (bitsN d) p-1)=zab r by omega]
  exact zfn (zll1 h1 h2 fun er he=>hpr k2 (back m2) er he)
 ·rw [if_neg c] at rm rx
  rw [decide_eq_false (show ¬(u:Int)≥36028797018963966 by omega)]
  have e1:shrI .u64 (u:Int) (((false.toNat:Nat):Int))=(u:Int):=by
   have:=shrN u (n:=0) (by decide)
   rw [Nat.pow_zero,Nat.div_one] at this
   exact this
  rw [e1,orN hu (by omega),zdu2]
  refine zbf (zcv1 hu ?_)
  rw [rm,fin,show (((false.toNat:Nat):Int))=0 from rfl,zac (n:=readE (bitsN d) p-0) (by omega) (by omega),zac (by omega) (by omega),show (0:Int)-(readE (bitsN d) p-0)=zab r by omega]
  exact zfn (zll1 h1 h2 fun er he=>hpr k2 (back m2) er he)
end
end Lf

namespace Lf
open Go Go.Proofs
theorem zxa1 {o:Option Nat} {v:Nat} (h:outD o=v) (hn:¬9218868437227405312<v%9223372036854775808):o=some v:=by
 cases o with
 | some x=>exact congrArg some h
 | none=>
  have:9221120237041090560=v:=h
  exact absurd (by rw [←this];decide) hn
theorem zje1 {a b v:Nat} (ha:a<18446744073709551616) (hb:b<18446744073709551616) (hv:mulD a b=v) (hn:¬9218868437227405312<v%9223372036854775808):f64.format.mul a b=some v:=
 zxa1 ((zdi2 ha hb).1.trans hv) hn
theorem zzp1 {a b v:Nat} (ha:a<18446744073709551616) (hb:b<18446744073709551616) (hv:divD a b=v) (hn:¬9218868437227405312<v%9223372036854775808):f64.format.div a b=some v:=
 zxa1 ((zdj2 ha hb).1.trans hv) hn
theorem zzq1 {s:Bool} {x y m n:Nat} (hx:WholeF x m) (hy:WholeF y n):mulD (sgn s+x) y=sgn s+rungD (zaa x*zaa y) (zab x+zab y) false:=by
 have a:=hx.m
 have b:=hy.m
 obtain ⟨x0,x1, -⟩:=hx
 obtain ⟨y0,y1, -⟩:=hy
 have hm:(sgn s+x)%9223372036854775808=x:=by unfold sgn;cases s<;>simp<;>omega
 have hn:negD (sgn s+x)=s:=by unfold negD sgn;cases s<;>simp<;>omega
 have hy2:y%9223372036854775808=y:=by omega
 have hny:negD y=false:=by unfold negD;rw [decide_eq_false (by omega)]
 have nx:¬zmi (sgn s+x)=true:=zoy (by rw [hm];omega)
 have ny:¬zmi y=true:=zoy (by rw [hy2];omega)
 unfold mulD
 dsimp only
 rw [hm,hy2,hn,hny,if_neg (fun h=>h.elim nx fun h=>h.elim ny fun h=>h.elim (fun h=>by omega) fun h=>by omega),if_neg (by omega)]
 unfold zia
 rw [if_neg (Nat.ne_of_gt (Nat.mul_pos (by omega) (by omega))),Bool.xor_false]
theorem znw1 {x:Nat} (hx:x<9223372036854775808):Op.negFloat .f64 x=9223372036854775808+x:=by
 show x^^^2^63=_
 have h1:x^^^2^63=x ||| 2^63:=by
  refine Nat.eq_of_testBit_eq fun i=> ?_
  rw [Nat.testBit_xor,Nat.testBit_or,Nat.testBit_two_pow]
  by_cases hi:63=i
  ·subst hi
   rw [Nat.testBit_lt_two_pow (by omega)];rfl
  ·rw [decide_eq_false hi,Bool.xor_false,Bool.or_false]
 rw [h1,Nat.or_comm]
 have:=Nat.shiftLeft_add_eq_or_of_lt (b:=x) (i:=63) (by omega) 1
 rw [Nat.shiftLeft_eq,Nat.one_mul] at this
 rw [←this]
section
variable {h:Hp}
theorem zav2 {c:Option Bool} {P:Program} {s:Sem Value} {sh:Shape} {v:sh.T} {K:sh.T→Prop} (he:s=Sem.pure (sh.enc v)) (hk:K v):SemV c P s sh h K:=by
 obtain ⟨x,hx,hk⟩:=zeo (P:=P) (h:=h) he hk
 refine ⟨x,?_,hk⟩
 cases c with
 | none=>exact hx
 | some b=>exact fun _=>hx
theorem zey1 (env:FEnv h) {i:Int} {K:Nat→Prop} (i0:0≤i) (i1:i<23) (hk:∀x,pow10F[i.toNat]? =some x→K x):
  LdW none shSl h ⟨12,0,none⟩ fun y=>(InB y.base y.len i)∧LdW none (shFlt .f64) h (sat y.base 1 i) K:=by
 obtain ⟨a,c,e1,e2⟩:=env.f10
 obtain ⟨j,rfl⟩:=Int.eq_ofNat_of_zero_le i0
 have hlen:pow10F.length=23:=rfl
 obtain ⟨x,hx⟩:∃x,pow10F[j]? =some x:=⟨pow10F[j]'(by omega),List.getElem?_eq_getElem (by omega)⟩
 refine ld_at (sh:=shSl) ⟨some a,23,c⟩ e1 ⟨⟨by simp,by omega,by show (j:Int)<23;omega⟩,ld_at (sh:=shFlt .f64) x ?_ (hk x (by rw [Int.toNat_natCast];exact hx))⟩
 show LdIs h (Addr.add a (Int.toNat (j:Int)*1)) [.float .f64 x]
 rw [Int.toNat_natCast,Nat.mul_one]
 exact zsl (e2 j _ (by rw [List.getElem?_map,hx];rfl))
theorem zez1 :∀x∈pow10F,x<9218868437227405312:=by decide
theorem zqt1 {m r:Nat} {p:Int} {neg:Bool} {Q:Nat→Bool→Hp→Prop} (env:FEnv h) (hm0:0<m) (hm:m<18446744073709551616) (hp0: -400≤p) (hp1:p≤400)
  (hq:∀f ok,(0<r→r<9218868437227405312→inF r (m*unitW 0 p)=true→ok=true→f=sgn neg+r)→Q f ok h):zau Tryz.prog (m:Int) p neg Q h:=by
 have no:∀f,Q f false h:=fun f=>hq f false fun _ _ _ e=>by cases e
 unfold zau
 have ea:Addr.add ⟨7,0,none⟩ 0=(⟨7,0,none⟩:Addr):=by rw [zak]
 rw [ea]
 refine ld_at (sh:=shInt .u64) (52:Int) env.info ⟨by decide,?_⟩
 have e0:shrI .u64 (m:Int) (52:Int)=((m / 2^52:Nat):Int):=shrN m (n:=52) (by decide)
 rw [e0]
 refine iteB (fun _=>no 0) fun hz=> ?_
 have hm52:m<4503599627370496:=by
  refine Classical.byContradiction fun hn=>hz (bne_iff_ne.2 ?_)
  omega
 have hx:=zev1 hm0 (show m<9007199254740992 by omega)
 have hf:f64.nearest (m:Int)=rungD m 0 false:=by
  rw [zyk1]
  unfold zpq1
  rw [show ((m:Int)).natAbs=m by omega,decide_eq_false (by omega)]
  unfold zia
  rw [if_neg (by omega)]
  show 0+_=_
  omega
 generalize hX:rungD m 0 false=x at*
 refine ⟨x,by rw [←hf];exact zww1,?_⟩
 obtain ⟨x0,x1, -⟩:=id hx
 have hs:=zlc1 neg
 refine JoinW1.intro (fun f k=>k=h∧f=sgn neg+x) ?_ ?_
 ·cases neg with
  | true=>exact iteT rfl ⟨rfl,znw1 (by omega)⟩
  | false=>exact iteF (by decide) ⟨rfl,by show x=0+x;omega⟩
 rintro _ h ⟨rfl,rfl⟩
 refine iteB (fun hp=> ?_) fun hpn=>letW (iteB (fun hy=> ?_) fun hyn=>letW (iteB (fun hy=> ?_) fun _=>no _))
 ·have hp:p=0:=beq_iff_eq.1 hp
  subst hp
  exact hq _ _ fun h1 h2 hin _=>by rw [ziy1 (by omega) h1 hx.one hin]
 ·rw [Bool.and_eq_true] at hy
  have y1:=of_decide_eq_true hy.1
  have y2:=of_decide_eq_true hy.2
  refine JoinW2.intro (fun e f k=>k=h∧0<e∧e≤22∧∃z,f=sgn neg+z∧((∃M,0<M∧WholeF z M∧m*unitW 0 p=M*10^e.toNat*unitW 0 0)∨(4831355200913801216<z∧z≤9218868437227405312))) ?_ ?_
  ·refine iteB (fun h22=> ?_) fun h22=> ?_
   ·have h22:=of_decide_eq_true h22
    rw [zac (by omega) (by omega)]
    have hpw:=zey1 env (i:=p-22) (by omega) (by omega) (K:=fun x3=>SemE Tryz.prog (binS .mul 48 (.tmp 31) (.tmp 36) (.float .f64 (sgn neg+x)) (.float .f64 x3)) (shFlt .f64) (fun r h2=>(fun e f k=>k=h∧0<e∧e≤22∧∃z,f=sgn neg+z∧((∃M,0<M∧WholeF z M∧m*unitW 0 p=M*10^e.toNat*unitW 0 0)∨(4831355200913801216<z∧z≤9218868437227405312))) (22:Int) r h2) h) ?_
    ·exact hpw
    intro y hy
    obtain ⟨hyw,hk⟩:=zew1 hy
    have hyl:=zez1 y (List.mem_of_getElem? hy)
    have hprod:0<m*10^(p-22).toNat:=Nat.mul_pos hm0 (Nat.pow_pos (by decide))
    have hval:m*unitW 0 p=m*10^(p-22).toNat*10^(22:Int).toNat*unitW 0 0:=by
     have e:=zfy (a:=0) (b:=0) (n:=(p-22).toNat+22) (by omega)
     rw [show (0:Int)+(((p-22).toNat+22:Nat):Int)=p by omega] at e
     rw [←e,Nat.pow_add,←Nat.mul_assoc,←Nat.mul_assoc];rfl
    by_cases hle:m*10^(p-22).toNat≤1000000000000000
    ·obtain ⟨z,hz1,hz2⟩:=zwy1 hx hyw hprod hle
     refine zkf zis1 fun g g1 _=>⟨rfl,by decide,by decide,z,g1 _ (zje1 (by omega) (by omega) (hz2 neg) ?_),.inl ⟨_,hprod,hz1,hval⟩⟩
     have:=hz1.2.1
     omega
    ·have hg:=zwz1 hx hyw (by omega)
     have hr:=zcr1 (m:=zaa x*zaa y) (e:=zab x+zab y) (b:=false)
     refine zkf zis1 fun g g1 _=>⟨rfl,by decide,by decide,_,g1 _ (zje1 (by omega) (by omega) (zzq1 hx hyw) (by omega)),.inr ⟨hg,hr⟩⟩
   ·have h22:¬p>22:=fun e=>h22 (decide_eq_true e)
    refine ⟨rfl,y1,by omega,x,rfl,.inl ⟨m,hm0,hx,?_⟩⟩
    have e:=zfy (a:=0) (b:=0) (n:=p.toNat) (by omega)
    rw [show (0:Int)+(p.toNat:Int)=p by omega] at e
    rw [←e,←Nat.mul_assoc]
  rintro e _ h ⟨rfl,e0,e1,z,rfl,hz⟩
  have hzb:z≤9218868437227405312:=by
   rcases hz with ⟨M, -,hz, -⟩ | hz
   ·have:=hz.2.1;omega
   ·exact hz.2
  have o1:=zvr (a:=sgn neg+z) (b:=4831355200913801216) (by omega) (by omega) (by omega) (by omega)
  have o2:=zvr (a:=sgn neg+z) (b:=14054727237768577024) (by omega) (by omega) (by omega) (by omega)
  have r1:rzD 4831355200913801216=4831355200913801216:=by unfold rzD negD;rw [decide_eq_false (by omega)];decide
  have r2:rzD 14054727237768577024= -4831355200913801216:=by unfold rzD negD;rw [decide_eq_true (by omega)];decide
  refine zeo (sh:=zag) (v:=f64.format.order (sgn neg+z) 4831355200913801216==some .gt) rfl ?_
  refine zav2 (sh:=zag) (v:=f64.format.order (sgn neg+z) 14054727237768577024==some .lt) rfl (letW ?_)
  refine iteB (fun _=>no _) fun hnot=> ?_
  rcases hz with ⟨M,M0,hzw,hval⟩ | ⟨hz1,hz2⟩
  ·have hpw:=zey1 env (i:=e) (by omega) (by omega) (K:=fun x5=>SemE Tryz.prog (binS .mul 48 (.tmp 44) (.tmp 48) (.float .f64 (sgn neg+z)) (.float .f64 x5)) (shFlt .f64) (fun r h3=>Q r true h3) h) ?_
   ·exact hpw
   intro y hy
   obtain ⟨hyw,hk⟩:=zew1 hy
   have hyl:=zez1 y (List.mem_of_getElem? hy)
   refine zkf zis1 fun g g1 _=>hq _ _ fun h1 h2 hin _=> ?_
   rw [hval] at hin
   exact g1 _ (zje1 (by omega) (by omega) (zhe1 h1 h2 hzw hyw hin) (by omega))
  ·exfalso
   refine hnot ?_
   have hzr:rzD (sgn neg+z)=if neg then -(z:Int) else (z:Int):=by
    unfold rzD negD
    cases neg with
    | true=>rw [show sgn true=9223372036854775808 from rfl,decide_eq_true (by omega),show (9223372036854775808+z)%9223372036854775808=z by omega]
    | false=>rw [show sgn false=0 from rfl,decide_eq_false (by omega),show (0+z)%9223372036854775808=z by omega]
   rw [Bool.or_eq_true]
   cases neg with
   | true=>
    right
    show (dbl.order _ _==some .lt)=true
    rw [o2,hzr,r2,if_pos rfl,show compare (-(z:Int)) (-4831355200913801216)=.lt by rw [Int.compare_eq_lt];omega];rfl
   | false=>
    left
    show (dbl.order _ _==some .gt)=true
    rw [o1,hzr,r1,if_neg (by decide),show compare (z:Int) 4831355200913801216=.gt by rw [Int.compare_eq_gt];omega];rfl
 ·rw [Bool.and_eq_true] at hy
  have y1:=of_decide_eq_true hy.1
  have y2:=of_decide_eq_true hy.2
  rw [zac (by omega) (by omega)]
  have hpw:=zey1 env (i:=(0:Int)-p) (by omega) (by omega) (K:=fun x3=>SemE Tryz.prog (binS .quo 48 (.tmp 57) (.tmp 62) (.float .f64 (sgn neg+x)) (.float .f64 x3)) (shFlt .f64) (fun r h2=>Q r true h2) h) ?_
  ·exact hpw
  intro y hy
  obtain ⟨hyw,hk⟩:=zew1 hy
  have hyl:=zez1 y (List.mem_of_getElem? hy)
  refine zkf znk1 fun g g1 _=>hq _ _ fun h1 h2 hin _=> ?_
  exact g1 _ (zzp1 (by omega) (by omega) (zsn1 h1 h2 hx hyw (by omega) (by rw [show -((((0:Int)-p).toNat:Nat):Int)=p by omega];exact hin)) (by omega))
end
end Lf

namespace Lf
open Go Go.Proofs
abbrev U64 (x:Int):Prop:=∃n:Nat,x=(n:Int)∧n<18446744073709551616
theorem zqs (x:Int):U64 (IntKind.wrap .u64 x):=⟨(IntKind.wrap .u64 x).toNat,by rw [zah];omega,by rw [zah];omega⟩
section
variable {h:Hp}
theorem lowE {b:Bool} {c:Int} {K:Int→Hp→Prop} (hk:∀x,K x h):EffC (some b) (CallT Tryz.prog zae [(.int .u8 c)] (shInt .u8)) K h:=
 ⟨fun _=>zav (zsm (hk _)),fun _=>⟨(0:Int),hk 0⟩⟩
theorem lowC {c:Int} {K:Int→Hp→Prop} (hk:∀x,K x h):CallT Tryz.prog zae [(.int .u8 c)] (shInt .u8) K h:=zav (zsm (hk _))
theorem zfk1 {s:ByteArray} {Q:Bool→Hp→Prop} (hs:s.size<4611686018427387904) (hq:∀b,Q b h):zdy Tryz.prog s Q h:=by
 unfold zdy
 refine JoinW1.intro (fun s k=>k=h∧s.size<4611686018427387904) ⟨fun hh=>⟨by decide,by have:=of_decide_eq_true hh;omega⟩,fun hh=>⟨by decide,by rw [Bool.and_eq_true] at hh;have:=of_decide_eq_true hh.1;omega⟩,letW (letW (iteB (fun hy=> ?_) fun _=>⟨rfl,hs⟩))⟩ ?_
 ·rw [Bool.and_eq_true] at hy
  have:=of_decide_eq_true hy.1
  refine ⟨⟨by decide,by omega⟩,rfl,?_⟩
  rw [ByteArray.size_extract]
  omega
 clear hs s
 rintro s h ⟨rfl,hs⟩
 refine JoinW3.intro (fun _ i _ k=>k=h∧0≤i∧i≤(s.size:Int)) ?_ ?_
 ·refine ⟨fun hh=>⟨by decide,by have:=of_decide_eq_true hh;omega⟩,letW ?_⟩
  generalize hy:((decide ((((ByteArray.size s):Nat):Int)≥(2:Int)))&&((((UInt8.toNat (List.getD s.data.toList 0 0)):Nat):Int)==(48:Int)))=y
  have hy2:y=true→(2:Int)≤(s.size:Int):=fun e=>by
   rw [e,Bool.and_eq_true] at hy
   exact of_decide_eq_true hy.1
  refine ⟨fun e=>⟨by decide,by have:=hy2 e;omega⟩,lowE fun r=>⟨fun e=> ?_,lowE fun r1=>letW ⟨fun e=> ?_,lowE fun r2=>letW (letW (iteB (fun e=> ?_) fun _=>⟨rfl,by omega,by omega⟩))⟩⟩⟩
  ·rw [Bool.and_eq_true] at e;exact ⟨by decide,by have:=hy2 e.1;omega⟩
  ·rw [Bool.and_eq_true] at e;exact ⟨by decide,by have:=hy2 e.1;omega⟩
  ·rw [Bool.and_eq_true] at e
   have:=hy2 e.1
   exact ⟨⟨by decide,by omega⟩,lowC fun _=>⟨rfl,by omega,this⟩⟩
 rintro saw i hex h ⟨rfl,i0,i1⟩
 refine LoopW2.intro (fun _ i k=>k=h∧0≤i∧i≤(s.size:Int)) (fun _ i _=>(s.size-i).toNat) ⟨rfl,i0,i1⟩ ?_
 clear i0 i1 saw i
 rintro saw i h ⟨rfl,i0,i1⟩
 refine iteB (fun hi=> ?_) fun _=> ?_
 ·have hi:=of_decide_eq_true hi
  have key:∀v:Int,(h=h∧0≤IntKind.wrap .i64 (i+1)∧IntKind.wrap .i64 (i+1)≤(s.size:Int))∧(s.size-IntKind.wrap .i64 (i+1)).toNat<(s.size-i).toNat:=fun _=>by
   rw [zac (by omega) (by omega)]
   exact ⟨⟨rfl,by omega,by omega⟩,by omega⟩
  refine JoinW1.intro (fun _ k=>k=h) ?_ fun v k hk=>by rw [hk];exact key v
  refine ⟨⟨i0,hi⟩,fun _=>⟨i0,hi⟩,letW ⟨fun _=>⟨i0,hi⟩,lowE fun r=>letW ⟨fun _=>⟨i0,hi⟩,lowE fun r1=>letW (letW (iteB (fun _=>rfl) fun _=>⟨⟨i0,hi⟩,?_⟩))⟩⟩⟩
  exact iteB (fun _=>iteB (fun _=>hq _) fun _=>rfl) fun _=>iteB (fun _=>hq _) fun _=>rfl
 ·exact hq _
theorem zjf1 {s:ByteArray} {Q:Int→Int→Bool→Bool→Bool→Int→Bool→Hp→Prop} (hs:s.size<4611686018427387904) (hq:∀(m:Nat) e neg tr hex i ok,m<18446744073709551616→(ok=true→0≤i∧i≤(s.size:Int))→Q (m:Int) e neg tr hex i ok h):zax Tryz.prog s Q h:=by
 unfold zax
 have no:∀(m e:Int) neg tr hex i,U64 m→Q m e neg tr hex i false h:=fun m e neg tr hex i ⟨n,en,hn⟩=>en▸hq n e neg tr hex i false hn fun e=>by cases e
 generalize hN:s.size=N at*
 refine iteB (fun _=>no _ _ _ _ _ _ ⟨0,rfl,by decide⟩) fun hN0=> ?_
 have hN0:¬(0:Int)≥(N:Int):=fun e=>hN0 (decide_eq_true e)
 refine ⟨⟨by decide,by omega⟩,JoinW2.intro (fun _ i k=>k=h∧0≤i∧i≤(N:Int)) (iteB (fun _=>⟨rfl,by omega,by omega⟩) fun _=>iteB (fun _=>⟨rfl,by omega,by omega⟩) fun _=>⟨rfl,by omega,by omega⟩) ?_⟩
 rintro neg i h ⟨rfl,i0,i1⟩
 refine JoinW5.intro (fun _ i _ _ _ k=>k=h∧0≤i∧i≤(N:Int)) ?_ ?_
 ·have w2:IntKind.wrap .i64 (i+2)=i+2:=zac (by omega) (by omega)
  have w1:IntKind.wrap .i64 (i+1)=i+1:=zac (by omega) (by omega)
  rw [w2,w1]
  refine ⟨fun hh=>⟨i0,by have:=of_decide_eq_true hh;omega⟩,letW ⟨fun hh=> ?_,lowE fun r=>letW (iteB (fun hh=> ?_) fun _=>⟨rfl,i0,i1⟩)⟩⟩
  ·rw [Bool.and_eq_true] at hh
   have:=of_decide_eq_true hh.1
   exact ⟨by omega,by omega⟩
  ·rw [Bool.and_eq_true,Bool.and_eq_true] at hh
   have:=of_decide_eq_true hh.1.1
   exact ⟨rfl,by omega,by omega⟩
 clear i0 i1 i
 rintro hex i base mx ex h ⟨rfl,i0,i1⟩
 refine JoinW9.intro (fun m _ i _ _ _ _ _ _ k=>k=h∧0≤i∧i≤(N:Int)∧U64 m) ?_ ?_
 ·refine LoopW9.intro (fun m _ i _ _ _ _ _ _ k=>k=h∧0≤i∧i≤(N:Int)∧U64 m) (fun _ _ i _ _ _ _ _ _ _=>(N-i).toNat) ⟨rfl,i0,i1,0,rfl,by decide⟩ ?_
  clear i0 i1 i
  rintro m tr i us sd sg nd ndm dp h ⟨rfl,i0,i1,hm⟩
  refine iteB (fun hi=> ?_) fun _=>⟨rfl,i0,i1,hm⟩
  have hi:=of_decide_eq_true hi
  refine JoinW8.intro (fun m _ _ _ _ _ _ _ k=>k=h∧U64 m) ?_ ?_
  ·refine ⟨⟨i0,hi⟩,iteB (fun _=>⟨rfl,hm⟩) fun _=>iteB (fun _=>iteB (fun _=>⟨rfl,i0,i1,hm⟩) fun _=>⟨rfl,hm⟩) fun _=>letW (iteB (fun _=>letW (iteB (fun _=>⟨rfl,hm⟩) fun _=>iteB (fun _=>⟨rfl,zqs _⟩) fun _=>iteB (fun _=>⟨rfl,hm⟩) fun _=>⟨rfl,hm⟩)) fun _=> ?_)⟩
   refine lowE fun r=>letW (lowE fun r1=>letW (iteB (fun _=>iteB (fun _=>lowC fun _=>⟨rfl,zqs _⟩) fun _=>⟨rfl,hm⟩) fun _=>⟨rfl,i0,i1,hm⟩))
  rintro m tr us sd sg nd ndm dp h ⟨rfl,hm⟩
  rw [zac (n:=i+1) (by omega) (by omega)]
  exact ⟨⟨rfl,by omega,by omega,hm⟩,by omega⟩
 clear i0 i1 i
 rintro m tr i us sd sg nd ndm dp h ⟨rfl,i0,i1,hm⟩
 refine iteB (fun _=>no _ _ _ _ _ _ hm) fun _=> ?_
 refine JoinW1.intro (fun _ k=>k=h) (iteB (fun _=>rfl) fun _=>rfl) ?_
 rintro dp h rfl
 refine JoinW2.intro (fun _ _ k=>k=h) (iteB (fun _=>rfl) fun _=>rfl) ?_
 rintro ndm dp h rfl
 refine JoinW3.intro (fun i _ _ k=>k=h∧0≤i∧i≤(N:Int)) ?_ ?_
 ·refine ⟨fun hh=>⟨i0,of_decide_eq_true hh⟩,lowE fun r=>letW (iteB (fun hy=> ?_) fun _=>iteB (fun _=>no _ _ _ _ _ _ hm) fun _=>⟨rfl,i0,i1⟩)⟩
  rw [Bool.and_eq_true] at hy
  have hi:=of_decide_eq_true hy.1
  rw [zac (n:=i+1) (by omega) (by omega)]
  refine iteB (fun _=>no _ _ _ _ _ _ hm) fun h1=> ?_
  have h1:¬i+1≥(N:Int):=fun e=>h1 (decide_eq_true e)
  refine ⟨⟨by omega,by omega⟩,JoinW2.intro (fun i3 _ k=>k=h∧0≤i3∧i3≤(N:Int)) ?_ ?_⟩
  ·rw [zac (n:=i+1+1) (by omega) (by omega)]
   exact iteB (fun _=>⟨rfl,by omega,by omega⟩) fun _=>iteB (fun _=>⟨rfl,by omega,by omega⟩) fun _=>⟨rfl,by omega,by omega⟩
  rintro i3 es h ⟨rfl,j0,j1⟩
  refine ⟨fun hh=>⟨j0,?_⟩,letW ⟨fun hh=>⟨j0,?_⟩,letW (iteB (fun _=>no _ _ _ _ _ _ hm) fun hy2=> ?_)⟩⟩
  ·have:¬i3≥(N:Int):=fun e=>by rw [decide_eq_true e] at hh;cases hh
   omega
  ·have:¬i3≥(N:Int):=fun e=>by rw [decide_eq_true e,Bool.true_or] at hh;cases hh
   omega
  refine LoopW3.intro (fun i4 _ _ k=>k=h∧0≤i4∧i4≤(N:Int)) (fun i4 _ _ _=>(N-i4).toNat) ⟨rfl,j0,j1⟩ ?_
  rintro i4 us4 e4 h ⟨rfl,k0,k1⟩
  refine ⟨fun hh=>⟨k0,of_decide_eq_true hh⟩,fun hh=>⟨k0,by rw [Bool.and_eq_true] at hh;exact of_decide_eq_true hh.1⟩,letW ⟨fun hh=>⟨k0,by rw [Bool.and_eq_true] at hh;exact of_decide_eq_true hh.1⟩,letW (letW (iteB (fun hy=> ?_) fun _=>⟨rfl,k0,k1⟩))⟩⟩
  rw [Bool.and_eq_true] at hy
  have hi4:=of_decide_eq_true hy.1
  refine JoinW2.intro (fun _ _ k=>k=h) ⟨⟨k0,hi4⟩,iteB (fun _=>rfl) fun _=>iteB (fun _=>⟨⟨k0,hi4⟩,rfl⟩) fun _=>rfl⟩ ?_
  rintro us5 e5 h rfl
  rw [zac (n:=i4+1) (by omega) (by omega)]
  exact ⟨⟨rfl,by omega,by omega⟩,by omega⟩
 clear i0 i1 i
 rintro i us dp h ⟨rfl,i0,i1⟩
 refine JoinW1.intro (fun _ k=>k=h) (iteB (fun _=>rfl) fun _=>rfl) ?_
 rintro e h rfl
 obtain ⟨n,rfl,hn⟩:=hm
 have fin:∀r:Bool,(if (us&&(!r))=true then Q (n:Int) e neg tr hex i false h else Q (n:Int) e neg tr hex i true h):=fun r=>iteB (fun _=>no _ _ _ _ _ _ ⟨n,rfl,hn⟩) fun _=>hq n e neg tr hex i true hn fun _=>⟨i0,i1⟩
 refine ⟨fun _=>⟨i0,i1⟩,fun _=>zlz (zfk1 ?_ fun r=>letW (fin r)),fun _=>⟨true,letW (fin true)⟩⟩
 rw [ByteArray.size_extract]
 omega
end
end Lf

namespace Lf
open Go Go.Proofs
structure HEnv (h:Hp):Prop where
 f64:∃cs,Blk h 7 cs
 i0:LdIs h ⟨7,0,none⟩ [.int .u64 52]
 i1:LdIs h ⟨7,1,none⟩ [.int .u64 11]
 i2:LdIs h ⟨7,2,none⟩ [.int .i64 (-1023)]
 f32:∃cs,Blk h 6 cs
theorem HEnv.mono {h h':Hp} (e:HEnv h) (hl:h≤h'):HEnv h':=⟨e.f64.imp fun _ k=>k.le hl,zbd hl e.i0,zbd hl e.i1,zbd hl e.i2,e.f32.imp fun _ k=>k.le hl⟩
theorem zxb1 {x b:Nat} (hb:b≤1):x ||| b≤2*(x / 2)+1:=by
 have:=Nat.or_div_two_pow (a:=x) (b:=b) (n:=1)
 rw [Nat.pow_one,show b / 2=0 by omega,Nat.or_zero] at this
 omega
section
variable {h:Hp}
theorem ld_c {sh:Shape} {c:Option Bool} {a:Addr} {K:sh.T→Prop} (x:sh.T) (hl:LdIs h a (zai (sh.enc x))) (hk:K x):LdW c sh h a K:=by
 refine ⟨x,?_,hk⟩
 cases c with
 | none=>exact hl
 | some b=>exact fun _=>hl
set_option maxRecDepth 100000 in
theorem zdw2 {a b:Nat} {ca cb:List Value} {x y:Operand} (ka:Blk h a ca) (kb:Blk h b cb) (hne:a≠b):SemIs Tryz.prog (binS .eql 211 x y (.pointer (some ⟨a,0,none⟩)) (.pointer (some ⟨b,0,none⟩))) h (.bool false):=by
 have hb2:((⟨a,0,none⟩:Addr).block==(⟨b,0,none⟩:Addr).block)=false:=by simpa using hne
 obtain ⟨ta,ea⟩:=id ka
 obtain ⟨tb',eb⟩:=id kb
 obtain ⟨i,hi,h1, -, -⟩:=tb_ok.info 213 ty213 rfl
 have hsz:i.size≠0:=by rw [h1];decide
 have key:∀d,semW Tryz.prog (Op.equalIn (d+1) 211 (.pointer (some ⟨a,0,none⟩)) (.pointer (some ⟨b,0,none⟩))) (fun u h'=>u=false∧h'=h) h:=by
  intro d
  unfold Op.equalIn
  refine (zdf1 _ _).2 (zyd1 (tb_ok.und _ ty211 rfl) ?_)
  show semW _ (Go.sizeOf 213>>=fun n=>if n≠0 then sameAddr ⟨a,0,none⟩ ⟨b,0,none⟩ else _) _ h
  refine (semW_bind' _ _).2 (zvd1 hi ?_)
  rw [if_pos hsz]
  unfold sameAddr
  rw [hb2]
  simp only [Bool.false_eq_true,if_false]
  refine (semW_bind' _ _).2 (zvs (a:=⟨a,0,none⟩) ea ?_)
  refine (semW_bind' _ _).2 (zvs (a:=⟨b,0,none⟩) eb ?_)
  rw [zik1 ka]
  simp only [Bool.false_and,Bool.false_eq_true,if_false]
  refine (semW_bind' _ _).2 (zeg1 ka ?_)
  refine (semW_bind' _ _).2 (zeg1 kb ?_)
  refine (semW_bind' _ _).2 ?_
  unfold mayBeOne
  refine (semW_bind' _ _).2 (zyy ka ?_)
  refine (semW_bind' _ _).2 (zyy kb ?_)
  refine (semW_bind' _ _).2 ((semW_bind' _ _).2 (zyf (r:=a) ea ?_))
  refine (semW_bind' _ _).2 ((semW_bind' _ _).2 (zyf (r:=b) eb ?_))
  exact ⟨rfl,rfl⟩
 refine zag1 ?_
 show semW Tryz.prog (Sem.bind (Op.equal 211 (.pointer (some ⟨a,0,none⟩)) (.pointer (some ⟨b,0,none⟩))) fun b=>Sem.pure (Value.bool b)) _ h
 refine (zdf1 _ _).2 (zsx1 _ (fun a k hk=> ?_) (key 9999))
 obtain ⟨rfl,rfl⟩:=hk
 exact ⟨rfl,rfl⟩
theorem zhf1 {s p:ByteArray} {Q:Int→Hp→Prop} (hs:s.size<4611686018427387904) (hq:∀n,Q n h):zaj Tryz.prog s p Q h:=by
 unfold zaj
 refine LoopW1.intro (fun i k=>k=h∧0≤i) (fun i _=>(s.size-i).toNat) ⟨rfl,by omega⟩ ?_
 rintro i h ⟨rfl,i0⟩
 refine iteB (fun hi=> ?_) fun _=>hq _
 have hi:=of_decide_eq_true hi
 have h2:i<(s.size:Int)∧i<(p.size:Int):=by unfold min2I at hi;split at hi<;>omega
 refine ⟨⟨i0,h2.1⟩,JoinW1.intro (fun _ k=>k=h) (letW (iteB (fun _=>rfl) fun _=>rfl)) ?_⟩
 rintro c h rfl
 refine ⟨⟨i0,h2.2⟩,iteB (fun _=>hq _) fun _=> ?_⟩
 rw [zac (by omega) (by omega)]
 exact ⟨⟨rfl,by omega⟩,by omega⟩
theorem znx1 {s:ByteArray} {Q:Nat→Int→Bool→Hp→Prop} (hs:s.size<4611686018427387904) (hq:∀f n ok,Q f n ok h):zba Tryz.prog s Q h:=by
 unfold zba
 refine iteB (fun _=>hq _ _ _) fun h0=> ?_
 have h0:0<s.size:=by
  refine Nat.pos_of_ne_zero fun e=>h0 (by rw [e];rfl)
 refine ⟨⟨by decide,by omega⟩,JoinW3.intro (fun s _ _ k=>k=h∧s.size<4611686018427387904) ?_ ?_⟩
 ·refine JoinW1.intro (fun _ k=>k=h) (iteB (fun _=>rfl) fun _=>rfl) ?_
  rintro t13 h rfl
  refine iteB (fun _=> ?_) fun _=> ?_
  ·refine JoinW1.intro (fun _ k=>k=h) ⟨⟨by decide,by omega⟩,iteB (fun _=>rfl) fun _=>rfl⟩ ?_
   rintro sg h rfl
   refine ⟨⟨by decide,by omega⟩,rfl,?_⟩
   rw [ByteArray.size_extract]
   omega
  ·refine JoinW1.intro (fun _ k=>k=h) (iteB (fun _=>rfl) fun _=>rfl) ?_
   rintro t16 h rfl
   refine iteB (fun _=>⟨rfl,hs⟩) fun _=> ?_
   refine JoinW1.intro (fun _ k=>k=h) (iteB (fun _=>rfl) fun _=>rfl) ?_
   rintro t19 h rfl
   refine iteB (fun _=>zat (zhf1 hs fun n=>iteB (fun _=>ztk ?_) fun _=>hq _ _ _)) fun _=>hq _ _ _
   unfold znk
   exact zhc (n:=9221120237041090561) rfl (by decide) (hq _ _ _)
 rintro s1 sg ns h ⟨rfl,hs1⟩
 refine zat (zhf1 hs1 fun n=> ?_)
 refine JoinW1.intro (fun _ k=>k=h) (letW (iteB (fun _=>rfl) fun _=>rfl)) ?_
 rintro n h rfl
 refine letW (iteB (fun _=>zlb ?_) fun _=>hq _ _ _)
 unfold ziz
 refine JoinW1.intro (fun v k=>k=h∧U64 v) (iteB (fun _=>⟨rfl,9218868437227405312,rfl,by decide⟩) fun _=>⟨rfl,18442240474082181120,rfl,by decide⟩) ?_
 rintro _ h ⟨rfl,v,rfl,hv⟩
 exact zhc rfl hv (hq _ _ _)
theorem zcx2 {s:ByteArray} {m:Nat} {exp:Int} {neg tr:Bool} {Q:Nat→Leaf→Hp→Prop} (e:HEnv h) (hm:m<18446744073709551616) (hq:∀(f:Nat) (er:Leaf),ErOk er→Q f er h):
  zgm Tryz.prog s (some ⟨7,0,none⟩) (m:Int) exp neg tr Q h:=by
 have c0:LdIs h (Addr.add ⟨7,0,none⟩ 0) [.int .u64 52]:=by rw [zak];exact e.i0
 have c1:LdIs h (Addr.add ⟨7,0,none⟩ 1) [.int .u64 11]:=by rw [zak];exact e.i1
 have c2:LdIs h (Addr.add ⟨7,0,none⟩ 2) [.int .i64 (-1023)]:=by rw [zak];exact e.i2
 unfold zgm
 refine zaf (ld_c (sh:=shInt .u64) (11:Int) c1 ⟨by decide,zaf (ld_c (sh:=shInt .i64) (-1023:Int) c2 (zaf (ld_c (sh:=shInt .i64) (-1023:Int) c2 (zaf (ld_c (sh:=shInt .u64) (52:Int) c0 ?_)))))⟩)
 refine LoopW2.intro (fun m _ k=>k=h∧U64 m) (fun m _ _=>(9223372036854775808-m).toNat) ⟨rfl,m,rfl,hm⟩ ?_
 rintro _ ex h ⟨rfl,m,rfl,hm⟩
 have w54:IntKind.wrap .u64 ((52:Int)+2)=((54:Nat):Int):=by decide
 refine zaf (ld_c (sh:=shInt .u64) (52:Int) c0 ⟨fun _=>by decide,letW ?_⟩)
 rw [w54,shrN m (by decide)]
 refine iteB (fun hy=>⟨by decide,?_⟩) fun _=> ?_
 ·rw [Bool.and_eq_true] at hy
  have h1:((m:Nat):Int)≠0:=bne_iff_ne.1 hy.1
  have h2:((m / 2^54:Nat):Int)=0:=beq_iff_eq.1 hy.2
  have hlt:m<2^54:=by
   refine Classical.byContradiction fun hn=> ?_
   have:=Nat.div_pos (Nat.le_of_not_lt hn) (Nat.two_pow_pos 54)
   omega
  have es:shlI .u64 (m:Int) (1:Int)=((m*2:Nat):Int):=shlN (n:=1) (by decide) (by omega)
  rw [es]
  exact ⟨⟨rfl,m*2,rfl,by omega⟩,by omega⟩
 refine JoinW1.intro (fun m k=>k=h∧U64 m) (iteB (fun _=>⟨rfl,zaz _ _ _⟩) fun _=>⟨rfl,m,rfl,hm⟩) ?_
 rintro _ h ⟨rfl,m,rfl,hm⟩
 have step:∀ {m:Nat},m<18446744073709551616→bitsI .or .u64 (shrI .u64 (m:Int) (1:Int)) (bitsI .and .u64 (m:Int) (1:Int))=((m / 2 ||| m%2:Nat):Int)∧m / 2 ||| m%2≤2*(m / 4)+1:=fun {m} hm=>by
  have e1:shrI .u64 (m:Int) (1:Int)=((m / 2:Nat):Int):=shrN m (n:=1) (by decide)
  rw [e1,and1 hm,orN (by omega) (by omega)]
  refine ⟨rfl,?_⟩
  have:=zxb1 (x:=m / 2) (b:=m%2) (by omega)
  omega
 refine LoopW2.intro (fun m _ k=>k=h∧U64 m) (fun m _ _=>m.toNat) ⟨rfl,m,rfl,hm⟩ ?_
 rintro _ ex h ⟨rfl,m,rfl,hm⟩
 have w55:IntKind.wrap .u64 ((IntKind.wrap .u64 ((1:Int)+52))+2)=((55:Nat):Int):=by decide
 refine zaf (ld_c (sh:=shInt .u64) (52:Int) c0 ⟨by decide,?_⟩)
 rw [w55,shrN m (by decide)]
 refine iteB (fun hy=>⟨by decide,?_⟩) fun _=> ?_
 ·have h2:((m / 2^55:Nat):Int)≠0:=bne_iff_ne.1 hy
  have hge:2^55≤m:=by
   refine Classical.byContradiction fun hn=>h2 ?_
   rw [Nat.div_eq_of_lt (by omega)];rfl
  obtain ⟨s1,s2⟩:=step hm
  rw [s1]
  exact ⟨⟨rfl,_,rfl,by omega⟩,by omega⟩
 refine LoopW2.intro (fun m _ k=>k=h∧U64 m) (fun m _ _=>m.toNat) ⟨rfl,m,rfl,hm⟩ ?_
 rintro _ ex h ⟨rfl,m,rfl,hm⟩
 refine letW (iteB (fun hy=>⟨by decide,?_⟩) fun _=>⟨by decide,?_⟩)
 ·rw [Bool.and_eq_true] at hy
  have h1:=of_decide_eq_true hy.1
  obtain ⟨s1,s2⟩:=step hm
  rw [s1]
  exact ⟨⟨rfl,_,rfl,by omega⟩,by omega⟩
 refine JoinW2.intro (fun _ _ k=>k=h) (iteB (fun _=>zaf (ld_c (sh:=shInt .u64) (52:Int) c0 ⟨by decide,iteB (fun _=>⟨by decide,rfl⟩) fun _=>rfl⟩)) fun _=>rfl) ?_
 rintro m5 e4 h rfl
 refine JoinW1.intro (fun _ k=>k=h) (zaf (ld_c (sh:=shInt .u64) (52:Int) c0 ⟨by decide,iteB (fun _=>zaf (ld_c (sh:=shInt .i64) (-1023:Int) c2 rfl)) fun _=>rfl⟩)) ?_
 rintro e5 h rfl
 refine JoinW3.intro (fun _ _ er k=>k=h∧ErOk er) (iteB (fun _=>zaf (ld_c (sh:=shInt .u64) (52:Int) c0 ⟨by decide,⟨.iface 122 (.int .i64 1),rfl⟩,rfl,rfl,.inr rfl⟩)) fun _=>⟨⟨.nilIface,rfl⟩,rfl,rfl,.inl rfl⟩) ?_
 rintro m6 e6 er h ⟨rfl,her⟩
 refine zaf (ld_c (sh:=shInt .u64) (52:Int) c0 ⟨by decide,zaf (ld_c (sh:=shInt .i64) (-1023:Int) c2 (zaf (ld_c (sh:=shInt .u64) (11:Int) c1 ⟨by decide,zaf (ld_c (sh:=shInt .u64) (52:Int) c0 ⟨by decide,?_⟩)⟩)))⟩)
 refine JoinW1.intro (fun b k=>k=h∧U64 b) (iteB (fun _=>zaf (ld_c (sh:=shInt .u64) (52:Int) c0 ⟨by decide,zaf (ld_c (sh:=shInt .u64) (11:Int) c1 ⟨by decide,rfl,zaz _ _ _⟩)⟩)) fun _=>⟨rfl,zaz _ _ _⟩) ?_
 rintro _ h ⟨rfl,b,rfl,hb⟩
 obtain ⟨cs,k32⟩:=e.f32
 obtain ⟨cs64,k64⟩:=e.f64
 refine ⟨false,zdw2 k64 k32 (by decide),iteF (by decide) (zhc rfl hb ⟨er,rfl,hq _ er her⟩)⟩
end
end Lf

namespace Lf
open Go Go.Proofs
def DecC (ds:List Nat) (nd dp:Int) (neg tr:Bool):List Value:=(ds.map fun (c:Nat)=>Value.int .u8 (c:Int))++ [.int .i64 nd,.int .i64 dp,.bool neg,.bool tr]
structure DX (h0 h:Hp) (b:Nat) (ds:List Nat) (nd dp:Int) (neg tr:Bool):Prop where
 le:h0≤h
 fresh:h0 b=none
 len:ds.length=800
 blk:Blk h b (DecC ds nd dp neg tr)
structure GoodD (ds:List Nat) (nd:Nat):Prop where
 pos:1≤nd
 most:nd≤800
 digs:Digs (ds.take nd)
 head:∃c,ds[0]? =some c∧49≤c∧c<58
def ndOf (h:Hp) (b:Nat):Nat:=match hcell h ⟨b,800,none⟩ with
 | some (.int _ n)=>n.toNat
 | _=>0
theorem decAt (b i:Nat):Addr.add (Addr.add (⟨b,0,none⟩:Addr) 0) (i*1)=⟨b,i,none⟩:=by rw [zak,zak];simp
section
variable {h0 h:Hp} {b:Nat} {ds:List Nat} {nd dp:Int} {neg tr:Bool}
theorem zzr1 (hl:ds.length=800):(DecC ds nd dp neg tr).length=804:=by unfold DecC;rw [List.length_append,List.length_map,hl];rfl
theorem DX.digit (x:DX h0 h b ds nd dp neg tr) {i:Nat} (hi:i<800):LdIs h ⟨b,i,none⟩ [.int .u8 ((ds.getD i 0:Nat):Int)]:=by
 refine x.blk.ldIs (off:=i) (n:=1) ?_
 have hl:=x.len
 unfold DecC
 rw [List.drop_append_of_le_length (by rw [List.length_map];omega),List.take_append_of_le_length (by rw [List.length_drop,List.length_map];omega),List.drop_eq_getElem_cons (by rw [List.length_map];omega)]
 simp [List.getD,hl,hi]
theorem zaw1 {j:Nat} (hl:ds.length=800) (hj:j<4):((DecC ds nd dp neg tr).drop (800+j)).take 1=(([.int .i64 nd,.int .i64 dp,.bool neg,.bool tr]:List Value).drop j).take 1:=by
 unfold DecC
 rw [←List.drop_drop,List.drop_left' (by rw [List.length_map];exact hl)]
theorem DX.ndAt (x:DX h0 h b ds nd dp neg tr):LdIs h (Addr.add ⟨b,0,none⟩ 800) [.int .i64 nd]:=by
 rw [zak]
 exact x.blk.ldIs (n:=1) (zaw1 (j:=0) x.len (by decide))
theorem DX.dpAt (x:DX h0 h b ds nd dp neg tr):LdIs h (Addr.add ⟨b,0,none⟩ 801) [.int .i64 dp]:=by
 rw [zak]
 exact x.blk.ldIs (n:=1) (zaw1 (j:=1) x.len (by decide))
theorem DX.negAt (x:DX h0 h b ds nd dp neg tr):LdIs h (Addr.add ⟨b,0,none⟩ 802) [.bool neg]:=by
 rw [zak]
 exact x.blk.ldIs (n:=1) (zaw1 (j:=2) x.len (by decide))
theorem DX.trAt (x:DX h0 h b ds nd dp neg tr):LdIs h (Addr.add ⟨b,0,none⟩ 803) [.bool tr]:=by
 rw [zak]
 exact x.blk.ldIs (n:=1) (zaw1 (j:=3) x.len (by decide))
theorem DX.ndIs (x:DX h0 h b ds nd dp neg tr):ndOf h b=nd.toNat:=by
 have:=x.ndAt 0 _ rfl
 rw [zak,zak] at this
 unfold ndOf
 rw [show 0+800+0=800 from rfl] at this
 rw [this]
theorem DX.put (x:DX h0 h b ds nd dp neg tr) {i:Nat} {v:Value} {ds':List Nat} {nd' dp':Int} {neg' tr':Bool} {K:Hp→Prop} (hi:i<804) (hl:ds'.length=800) (e:(DecC ds nd dp neg tr).set i v=DecC ds' nd' dp' neg' tr')
  (hk:∀h',DX h0 h' b ds' nd' dp' neg' tr'→K h'):StW h ⟨b,i,none⟩ [v] K:=
 put1 x.blk (by rw [zzr1 x.len];exact hi) fun h' m k=>hk h' ⟨(m.le x.le fun b' hb=>by rw [List.mem_singleton.1 hb];exact x.fresh).1,x.fresh,hl,e▸k⟩
theorem DX.putD (x:DX h0 h b ds nd dp neg tr) {i c:Nat} {v:Int} {K:Hp→Prop} (hi:i<800) (hv:v=(c:Int)) (hk:∀h',DX h0 h' b (ds.set i c) nd dp neg tr→K h'):StW h ⟨b,i,none⟩ [.int .u8 v] K:=by
 subst hv
 refine x.put (by omega) (by rw [List.length_set];exact x.len) ?_ hk
 unfold DecC
 rw [List.set_append_left (h:=by rw [List.length_map,x.len];exact hi),List.map_set]
theorem zdd1 {j:Nat} {v:Value} (hl:ds.length=800):(DecC ds nd dp neg tr).set (800+j) v=(ds.map fun (c:Nat)=>Value.int .u8 (c:Int))++([.int .i64 nd,.int .i64 dp,.bool neg,.bool tr]:List Value).set j v:=by
 unfold DecC
 rw [List.set_append_right (h:=by rw [List.length_map,hl];omega),List.length_map,hl,show 800+j-800=j by omega]
theorem DX.putNd (x:DX h0 h b ds nd dp neg tr) {v:Int} {K:Hp→Prop} (hk:∀h',DX h0 h' b ds v dp neg tr→K h'):StW h (Addr.add ⟨b,0,none⟩ 800) [.int .i64 v] K:=by
 rw [zak]
 exact x.put (by decide) x.len (zdd1 (j:=0) x.len) hk
theorem DX.putDp (x:DX h0 h b ds nd dp neg tr) {v:Int} {K:Hp→Prop} (hk:∀h',DX h0 h' b ds nd v neg tr→K h'):StW h (Addr.add ⟨b,0,none⟩ 801) [.int .i64 v] K:=by
 rw [zak]
 exact x.put (by decide) x.len (zdd1 (j:=1) x.len) hk
theorem DX.putNeg (x:DX h0 h b ds nd dp neg tr) {v:Bool} {K:Hp→Prop} (hk:∀h',DX h0 h' b ds nd dp v tr→K h'):StW h (Addr.add ⟨b,0,none⟩ 802) [.bool v] K:=by
 rw [zak]
 exact x.put (by decide) x.len (zdd1 (j:=2) x.len) hk
theorem DX.putTr (x:DX h0 h b ds nd dp neg tr) {v:Bool} {K:Hp→Prop} (hk:∀h',DX h0 h' b ds nd dp neg v→K h'):StW h (Addr.add ⟨b,0,none⟩ 803) [.bool v] K:=by
 rw [zak]
 exact x.put (by decide) x.len (zdd1 (j:=3) x.len) hk
theorem GoodD.less {n m:Nat} (g:GoodD ds n) (h1:1≤m) (h2:m≤n):GoodD ds m:=
 ⟨h1,Nat.le_trans h2 g.most,fun z hz=>g.digs z (by
  rw [show m=min m n by omega,←List.take_take] at hz
  exact List.mem_of_mem_take hz),g.head⟩
theorem zqu1 {n:Nat} {Q:Hp→Prop} (x:DX h0 h b ds n dp neg tr) (g:GoodD ds n) (hk:∀h' (m:Nat),DX h0 h' b ds m dp neg tr→GoodD ds m→Q h'):zih Tryz.prog (some ⟨b,0,none⟩) Q h:=by
 unfold zih
 refine LoopW0.intro (fun k=>∃m:Nat,DX h0 k b ds m dp neg tr∧GoodD ds m) (fun k=>ndOf k b) ⟨n,x,g⟩ ?_
 clear x g
 rintro k ⟨m,x,g⟩
 have g1:=g.pos
 have g2:=g.most
 have hm:decide ((m:Int)>0)=true:=decide_eq_true (by omega)
 refine zaf (ld_c (sh:=shInt .i64) (m:Int) x.ndAt (zaf (ld_c (sh:=shInt .i64) (m:Int) x.ndAt (zaf ⟨fun _=> ?_,?_⟩))))
 ·rw [zac (by omega) (by omega)];exact ⟨by omega,by omega⟩
 have e1:IntKind.wrap .i64 ((m:Int)-1)=((m-1:Nat):Int):=by rw [zac (by omega) (by omega)];omega
 rw [e1,Int.toNat_natCast,decAt]
 refine ld_c (sh:=shInt .u8) ((ds.getD (m-1) 0:Nat):Int) (x.digit (by omega)) (letW (iteB (fun hy=> ?_) fun _=> ?_))
 ·refine zaf (ld_c (sh:=shInt .i64) (m:Int) x.ndAt (zaf ?_))
  rw [e1]
  refine x.putNd fun k' x'=>⟨⟨m-1,x',g.less ?_ (by omega)⟩,?_⟩
  ·refine Classical.byContradiction fun hn=> ?_
   obtain ⟨c,hc,h49, -⟩:=g.head
   have:m=1:=by omega
   subst this
   rw [Bool.and_eq_true] at hy
   have:((ds.getD 0 0:Nat):Int)=48:=beq_iff_eq.1 hy.2
   rw [List.getD_eq_getElem?_getD,hc] at this
   have:(c:Int)=48:=this
   omega
  ·rw [x.ndIs,x'.ndIs];omega
 ·refine zaf (ld_c (sh:=shInt .i64) (m:Int) x.ndAt (iteF (fun hh=> ?_) (hk k m x g)))
  have:(m:Int)=0:=beq_iff_eq.1 hh
  omega
theorem DX.row {n:Nat} (x:DX h0 h b ds n dp neg tr) (hn:n≤800):Rw h 1 eN ⟨some ⟨b,0,none⟩,n,800⟩ (ds.take n):=by
 have hl:=x.len
 refine zcz1 x.blk (by rw [List.length_take];omega) ?_
 rw [List.drop_zero,List.length_take,show min n ds.length=n by omega,←zgv1,List.map_take]
 unfold DecC
 rw [List.take_append_of_le_length (by rw [List.length_map];omega)]
theorem zzs1 {xs:List Nat} {k:Nat} {l:Sl} {Q:Bool→Hp→Prop} (r:Rw h 1 eN l xs) (hx:Digs xs) (hxl:xs.length≤800) (k1:1≤k) (k2:k<61) (hq:∀lt,LessL lt xs k→Q lt h):zcu Tryz.prog l (strN (fiveL k)) Q h:=by
 have hF:fiveL k=decL (5^k):=by unfold fiveL;rw [if_neg (by omega)]
 have hv:numV (fiveL k)=5^k:=by rw [hF];exact zja1 _
 have hd:Digs (fiveL k):=by rw [hF];exact zes1 _
 have h5:=(zql1 k k2 k1)
 have hlen:(fiveL k).length≤60:=by rw [hF,zqr];have:=zoi (2^k);omega
 have er:=r.1
 unfold LessL at hq
 rw [←hv] at hq
 have hmod:numV (fiveL k)%10=5:=by rw [hv];exact h5.2
 generalize fiveL k=ys at*
 unfold zcu
 rw [zao]
 refine LoopW1.intro (fun i k=>k=h∧∃j:Nat,i=(j:Int)∧j≤ys.length∧j≤xs.length∧numV (xs.take j)=numV (ys.take j)) (fun i _=>(ys.length-i).toNat) ⟨rfl,0,rfl,by omega,by omega,rfl⟩ ?_
 rintro _ h ⟨rfl,j,rfl,j1,j2,he⟩
 by_cases hj:j<ys.length
 ·refine iteT (decide_eq_true (by omega)) ?_
  by_cases hjx:j<xs.length
  ·refine iteF (fun hh=>by have:=of_decide_eq_true hh;omega) ?_
   have hxj:xs[j]? =some xs[j]:=List.getElem?_eq_getElem hjx
   have hyj:ys[j]? =some ys[j]:=List.getElem?_eq_getElem hj
   have dx:=hx _ (List.getElem_mem hjx)
   have dy:=hd _ (List.getElem_mem hj)
   have nx:=zrm hxj
   have ny:=zrm hyj
   have px:numV (xs.take (j+1))<numV (ys.take (j+1))→_:=fun hlt=>zas2 (x:=xs) (y:=ys) (i:=j+1) hx hd (by omega) (by omega) hlt
   have py:numV (ys.take (j+1))<numV (xs.take (j+1))→_:=fun hlt=>zas2 (x:=ys) (y:=xs) (i:=j+1) hd hx (by omega) (by omega) hlt
   generalize xs[j]=u at*
   generalize ys[j]=v at*
   have hu:∀ {z:Nat},xs[((j:Int)).toNat]? =some z→z=u:=fun hz=>by rw [Int.toNat_natCast,hxj] at hz;exact (Option.some.inj hz).symm
   have hch:(((UInt8.toNat (List.getD (strN ys).data.toList (Int.toNat ((j:Nat):Int)) 0)):Nat):Int)=(v:Int):=by rw [Int.toNat_natCast,zij hyj (by omega)]
   rw [hch]
   refine rdN r (by omega) (by omega) fun z hz=>⟨⟨by omega,by omega⟩,?_⟩
   rw [hu hz]
   by_cases e:u=v
   ·refine iteF (fun hh=>bne_iff_ne.1 hh (by rw [e])) ?_
    rw [zac (by omega) (by omega)]
    exact ⟨⟨rfl,j+1,by omega,by omega,by omega,by rw [nx,ny,he,e]⟩,by omega⟩
   ·refine iteT (bne_iff_ne.2 (show (u:Int)≠(v:Int) by omega)) (rdN r (by omega) (by omega) fun z hz=>⟨⟨by omega,by omega⟩,?_⟩)
    rw [hu hz]
    by_cases c:u<v
    ·rw [decide_eq_true (show (u:Int)<(v:Int) by omega)]
     refine hq true ?_
     rw [if_pos rfl]
     exact px (by omega)
    ·rw [decide_eq_false (show ¬(u:Int)<(v:Int) by omega)]
     refine hq false ?_
     rw [if_neg (by decide)]
     exact Nat.le_of_lt (py (by omega))
  ·refine iteT (decide_eq_true (by omega)) (hq true ?_)
   rw [if_pos rfl]
   have hjx:j=xs.length:=by omega
   subst hjx
   rw [List.take_of_length_le (Nat.le_refl _)] at he
   have ey:=zas1 (ys.take xs.length) (ys.drop xs.length)
   rw [List.take_append_drop,List.length_drop,←he] at ey
   obtain ⟨q,eq⟩:∃q,ys.length=xs.length+(q+1):=⟨ys.length-xs.length-1,by omega⟩
   rw [eq,show xs.length+(q+1)-xs.length=q+1 by omega,Nat.pow_succ,←Nat.mul_assoc] at ey
   rw [eq,Nat.pow_add,Nat.mul_comm (10^xs.length),←Nat.mul_assoc,Nat.pow_succ,←Nat.mul_assoc]
   refine Nat.mul_lt_mul_of_pos_right ?_ (Nat.pow_pos (by decide))
   generalize numV xs*10^q=a at*
   omega
 ·refine iteF (fun hh=>hj (by have:=of_decide_eq_true hh;omega)) (hq false ?_)
  rw [if_neg (by decide)]
  have hjl:j=ys.length:=by omega
  subst hjl
  rw [List.take_of_length_le (l:=ys) (Nat.le_refl _)] at he
  have ex:=zas1 (xs.take ys.length) (xs.drop ys.length)
  rw [List.take_append_drop,List.length_drop,he] at ex
  obtain ⟨q,eq⟩:∃q,xs.length=ys.length+q:=⟨xs.length-ys.length,by omega⟩
  rw [eq,show ys.length+q-ys.length=q by omega] at ex
  rw [eq,Nat.pow_add,Nat.mul_comm (10^ys.length),←Nat.mul_assoc]
  exact Nat.mul_le_mul_right _ (by omega)
end
end Lf

namespace Lf
open Go Go.Proofs
theorem zlm1 {x k:Nat} (hx:x<18446744073709551616) (hk:k≤60):bitsI .and .u64 (x:Int) (IntKind.wrap .u64 ((shlI .u64 (1:Int) (k:Int))-(1:Int)))=((x%2^k:Nat):Int):=by
 have h2:2^k≤2^60:=Nat.pow_le_pow_right (by decide) hk
 have hp:=Nat.two_pow_pos k
 have e1:shlI .u64 (1:Int) (k:Int)=((2^k:Nat):Int):=by
  have:=shlN (x:=1) (n:=k) (by omega) (by omega)
  rw [Nat.one_mul] at this
  exact this
 have e2:IntKind.wrap .u64 (((2^k:Nat):Int)-1)=((2^k-1:Nat):Int):=by rw [zah];omega
 rw [e1,e2]
 unfold bitsI
 dsimp only
 rw [zoh,BitVec.toNat_and,zka hx,zka (by omega),Nat.and_two_pow_sub_one_eq_mod,zah]
 have:=Nat.mod_lt x hp
 omega
theorem zqt {ds:List Nat} {i j c:Nat} (hi:i<ds.length):(ds.set i c).getD j 0=if i=j then c else ds.getD j 0:=by
 rw [List.getD_eq_getElem?_getD,List.getD_eq_getElem?_getD,List.getElem?_set]
 by_cases h:i=j
 ·subst h;rw [if_pos rfl,if_pos hi,if_pos rfl];rfl
 ·rw [if_neg h,if_neg h]
theorem zuo {ds:List Nat} {i:Nat} (hi:i≤ds.length):Digs (ds.take i)↔∀q,q<i→48≤ds.getD q 0∧ds.getD q 0<58:=by
 constructor
 ·intro h q hq
  have e:ds.getD q 0=ds[q]'(by omega):=by simp [List.getD,show q<ds.length by omega]
  rw [e]
  exact h _ (List.mem_take_iff_getElem.2 ⟨q,by omega,rfl⟩)
 ·intro h z hz
  obtain ⟨q,hq,rfl⟩:=List.mem_take_iff_getElem.1 hz
  have:=h q (by omega)
  rw [List.getD,List.getElem?_eq_getElem (by omega)] at this
  exact this
theorem digB {z:Nat} (hz:z<10):IntKind.wrap .u8 (IntKind.wrap .u64 ((z:Int)+48))=((48+z:Nat):Int):=by rw [zah,byte8];omega
section
variable {h0 h:Hp} {b:Nat} {ds:List Nat} {dp:Int} {neg tr:Bool}
structure RInv (ds:List Nat) (i N N0 k:Nat):Prop where
 lt:N<10*2^k
 digs:∀q,q<i→48≤ds.getD q 0∧ds.getD q 0<58
 head:(i=0∧N=N0)∨(1≤i∧ds.getD 0 0=48+N0 / 2^k)
theorem RInv.step {ds:List Nat} {i N N0 k:Nat} (r:RInv ds i N N0 k) (hi:i<ds.length) (d:Nat) (hd:d<10):RInv (ds.set i (48+N / 2^k)) (i+1) (N%2^k*10+d) N0 k:=by
 have hp:=Nat.two_pow_pos k
 have hm:=Nat.mod_lt N hp
 have hq:N / 2^k<10:=by rw [Nat.div_lt_iff_lt_mul hp];exact r.lt
 refine ⟨by omega,fun q hq'=> ?_,.inr ⟨by omega,?_⟩⟩
 ·rw [zqt hi]
  split
  ·generalize N / 2^k=z at*
   omega
  ·exact r.digs q (by omega)
 ·rw [zqt hi]
  rcases r.head with ⟨rfl,rfl⟩ | ⟨h1,h2⟩
  ·rw [if_pos rfl]
  ·rw [if_neg (by omega)];exact h2
theorem RInv.rest {ds:List Nat} {i N N0 k:Nat} (r:RInv ds i N N0 k) (hi:1≤i):RInv ds i (N%2^k*10) N0 k:=by
 have hm:=Nat.mod_lt N (Nat.two_pow_pos k)
 refine ⟨by omega,r.digs,?_⟩
 rcases r.head with ⟨rfl,rfl⟩ | h2
 ·omega
 ·exact .inr h2
theorem zfa1 {n k c:Nat} {Q:Hp→Prop} (x:DX h0 h b ds n dp neg tr) (g:GoodD ds n) (hc:ds[0]? =some c) (k1:1≤k) (k2:k≤60) (d0: -1000000000000000≤dp) (d1:dp≤1000000000000000)
  (hk:∀h' ds' (m r:Nat) tr',DX h0 h' b ds' m (dp-((r:Int)-1)) neg tr'→GoodD ds' m→1≤r→r≤900→(4≤k→2≤r)→(k=3→2≤r∨(56≤c∧ds'.getD 0 0=49))→Q h'):zev Tryz.prog (some ⟨b,0,none⟩) (k:Int) Q h:=by
 have h2:2^k≤2^60:=Nat.pow_le_pow_right (by decide) k2
 have hp:=Nat.two_pow_pos k
 have hl:=x.len
 have g1:=g.pos
 have g2:=g.most
 obtain ⟨c',hc',c49,c58⟩:=g.head
 have ecc:c'=c:=Option.some.inj (hc'.symm.trans hc)
 rw [ecc] at c49 c58
 have hdig:=(zuo (i:=n) (by omega)).1 g.digs
 have hsh:∀ {m:Nat},shrI .u64 (m:Int) (k:Int)=((m / 2^k:Nat):Int):=fun {m}=>shrN m (by omega)
 have hz:∀ {m:Nat},((((m / 2^k:Nat):Int)==0)=true↔m<2^k):=fun {m}=>by
  rw [beq_iff_eq]
  constructor
  ·intro e
   refine Classical.byContradiction fun hn=> ?_
   have:=Nat.div_pos (Nat.le_of_not_lt hn) hp
   omega
  ·intro e
   rw [Nat.div_eq_of_lt e];rfl
 have hone:numV (ds.take 1)=c-48:=by
  have:=zrm hc
  simpa [numV] using this
 have hpos:∀j,1≤j→j≤n→1≤numV (ds.take j):=fun j j1 j2=>by
  have hh:(ds.take j)[0]? =some c:=by rw [List.getElem?_take,if_pos (by omega)];exact hc
  have:=(znp1 hh c49).1
  have:=Nat.pow_pos (n:=(ds.take j).length-1) (show 0<10 by decide)
  omega
 unfold zev
 refine JoinW2.intro (fun r v m=>m=h∧∃j N:Nat,r=(j:Int)∧v=(N:Int)∧1≤j∧j≤870∧2^k≤N∧N<10*2^k∧(4≤k→2≤j)∧(k=3→2≤j∨(56≤c∧N≤9))) ?_ ?_
 ·refine LoopW2.intro (fun r v m=>m=h∧∃j N:Nat,r=(j:Int)∧v=(N:Int)∧j≤n∧N=numV (ds.take j)∧N<10*2^k) (fun r _ _=>(n-r).toNat) ⟨rfl,0,0,rfl,rfl,by omega,rfl,by omega⟩ ?_
  rintro _ _ h ⟨rfl,j,N,rfl,rfl,j1,eN,hN⟩
  refine ⟨by omega,?_⟩
  rw [hsh]
  refine iteB (fun e=> ?_) fun e=> ?_
  ·have hlt:=hz.1 e
   refine zaf (ld_c (sh:=shInt .i64) (n:Int) x.ndAt (iteB (fun hr=> ?_) fun hr=> ?_))
   ·have hr:(j:Int)≥(n:Int):=of_decide_eq_true hr
    have hjn:j=n:=by omega
    have hN1:=hpos j (by omega) j1
    refine iteF (fun hh=>by have:((N:Nat):Int)=0:=beq_iff_eq.1 hh;omega) ?_
    refine LoopW2.intro (fun r v m=>m=h∧∃j1 N1:Nat,r=(j1:Int)∧v=(N1:Int)∧n≤j1∧2^(j1-n)≤N1∧N1<10*2^k∧(n<j1∨N1<2^k)) (fun _ v _=>(18446744073709551616-v).toNat) ⟨rfl,j,N,rfl,rfl,by omega,by rw [hjn,Nat.sub_self];omega,hN,.inr hlt⟩ ?_
    rintro _ _ h ⟨rfl,j2,N2,rfl,rfl,b1,b2,b3,b4⟩
    have hj2:j2-n<64:=by
     refine Classical.byContradiction fun hn=> ?_
     have:=Nat.pow_le_pow_right (n:=2) (i:=64) (j:=j2-n) (by decide) (by omega)
     omega
    refine ⟨by omega,?_⟩
    rw [hsh]
    refine iteB (fun e=> ?_) fun e=> ?_
    ·have hlt2:=hz.1 e
     have hN2:1≤N2:=Nat.le_trans (Nat.two_pow_pos _) b2
     rw [zac (by omega) (by omega),show IntKind.wrap .u64 ((N2:Int)*10)=((N2*10:Nat):Int) by rw [zah];omega]
     refine ⟨⟨rfl,j2+1,N2*10,rfl,rfl,by omega,?_,by omega,.inl (by omega)⟩,by omega⟩
     rw [show j2+1-n=j2-n+1 by omega,Nat.pow_succ]
     omega
    ·have hge:¬N2<2^k:=fun c=>e (hz.2 c)
     exact ⟨rfl,j2,N2,rfl,rfl,by omega,by omega,by omega,b3,fun _=>by omega,fun _=>.inl (by omega)⟩
   ·have hr:¬(j:Int)≥(n:Int):=fun e=>hr (decide_eq_true e)
    have hdj:=hdig j (by omega)
    have hnx:numV (ds.take (j+1))=10*numV (ds.take j)+(ds.getD j 0-48):=zrm (by simp [List.getD,show j<ds.length by omega])
    refine zaf ⟨⟨by omega,by omega⟩,?_⟩
    rw [Int.toNat_natCast,decAt]
    refine ld_c (sh:=shInt .u8) ((ds.getD j 0:Nat):Int) (x.digit (by omega)) ?_
    rw [zac (by omega) (by omega)]
    have ev:IntKind.wrap .u64 ((IntKind.wrap .u64 ((IntKind.wrap .u64 ((N:Int)*(10:Int)))+(IntKind.wrap .u64 ((ds.getD j 0:Nat):Int))))-(48:Int))=((10*N+(ds.getD j 0-48):Nat):Int):=by
     rw [zah,zah,zah,zah];omega
    rw [ev]
    exact ⟨⟨rfl,j+1,_,rfl,rfl,by omega,by rw [hnx,eN],by omega⟩,by omega⟩
  ·have hge:¬N<2^k:=fun c=>e (hz.2 c)
   have hj0:1≤j:=by
    refine Nat.pos_of_ne_zero fun e=>hge ?_
    subst e
    rw [eN];exact hp
   have hj1:j=1→N=c-48:=fun e=>by subst e;rw [eN];exact hone
   refine ⟨rfl,j,N,rfl,rfl,hj0,by omega,by omega,hN,fun hk4=> ?_,fun hk3=> ?_⟩
   ·refine Classical.byContradiction fun hn=>hge ?_
    have:=hj1 (by omega)
    have:=Nat.pow_le_pow_right (n:=2) (i:=4) (j:=k) (by decide) hk4
    omega
   ·by_cases hj:j=1
    ·right
     have:=hj1 hj
     subst hk3
     omega
    ·left;omega
 rintro _ _ h ⟨rfl,r,N0,rfl,rfl,r1,r2,N1,N2,rk4,rk3⟩
 refine zaf (ld_c (sh:=shInt .i64) dp x.dpAt (zaf ?_))
 rw [zac (n:=(r:Int)-1) (by omega) (by omega),zac (by omega) (by omega)]
 refine x.putDp fun m1 x1=>⟨by omega,?_⟩
 have hq0:1≤N0 / 2^k∧N0 / 2^k<10:=⟨Nat.div_pos N1 hp,by rw [Nat.div_lt_iff_lt_mul hp];exact N2⟩
 have h49:k=3→N0≤9→48+N0 / 2^k=49:=fun e1 e2=>by
  subst e1
  omega
 refine LoopW3.intro (fun r1 w v m=>∃(j i N:Nat) (ds1:List Nat),r1=(j:Int)∧w=(i:Int)∧v=(N:Int)∧i<j∧(j≤n∨i=0)∧DX h0 m b ds1 n (dp-((r:Int)-1)) neg tr∧RInv ds1 i N N0 k∧∀q,j≤q→q<n→ds1.getD q 0=ds.getD q 0) (fun r1 _ _ _=>(n-r1).toNat)
  ⟨r,0,N0,ds,rfl,rfl,rfl,by omega,.inr rfl,x1,⟨N2,fun q hq=>by omega,.inl ⟨rfl,rfl⟩⟩,fun _ _ _=>rfl⟩ ?_
 rintro _ _ _ m ⟨j,i,N,ds1,rfl,rfl,rfl,hij,hjn,x2,rI,hst⟩
 have hl1:=x2.len
 have hNlt:=rI.lt
 refine zaf (ld_c (sh:=shInt .i64) (n:Int) x2.ndAt (iteB (fun hr=> ?_) fun hr=> ?_))
 ·have hr:(j:Int)<(n:Int):=of_decide_eq_true hr
  have hdj:=hdig j (by omega)
  refine zaf ⟨⟨by omega,by omega⟩,?_⟩
  rw [Int.toNat_natCast,decAt]
  refine ld_c (sh:=shInt .u8) ((ds1.getD j 0:Nat):Int) (x2.digit (by omega)) ⟨by omega,zaf ⟨⟨by omega,by omega⟩,?_⟩⟩
  rw [hst j (by omega) (by omega),Int.toNat_natCast,decAt,hsh,zlm1 (by omega) k2]
  have hqd:N / 2^k<10:=by rw [Nat.div_lt_iff_lt_mul hp];exact hNlt
  have hmd:=Nat.mod_lt N hp
  refine x2.putD (c:=48+N / 2^k) (by omega) (digB hqd) fun m3 x3=> ?_
  have ev:IntKind.wrap .u64 ((IntKind.wrap .u64 ((IntKind.wrap .u64 (((N%2^k:Nat):Int)*(10:Int)))+(IntKind.wrap .u64 ((ds.getD j 0:Nat):Int))))-(48:Int))=((N%2^k*10+(ds.getD j 0-48):Nat):Int):=by
   rw [zah,zah,zah,zah];omega
  rw [ev,zac (n:=(j:Int)+1) (by omega) (by omega),zac (n:=(i:Int)+1) (by omega) (by omega)]
  refine ⟨⟨j+1,i+1,_,_,rfl,rfl,rfl,by omega,.inl (by omega),x3,rI.step (by omega) _ (by omega),fun q q1 q2=> ?_⟩,by omega⟩
  rw [zqt (by omega),if_neg (by omega)]
  exact hst q (by omega) q2
 ·have hr:¬(j:Int)<(n:Int):=fun e=>hr (decide_eq_true e)
  refine LoopW2.intro (fun w v m=>∃(i N:Nat) (ds1:List Nat) (tr1:Bool),w=(i:Int)∧v=(N:Int)∧i≤800∧DX h0 m b ds1 n (dp-((r:Int)-1)) neg tr1∧RInv ds1 i N N0 k) (fun _ v _=>restN v.toNat)
   ⟨i,N,ds1,tr,rfl,rfl,by omega,x2,rI⟩ ?_
  clear rI x2 hst hjn hij hl1 hNlt hr ds1 m N i
  rintro _ _ m ⟨i,N,ds1,tr1,rfl,rfl,hi,x2,rI⟩
  have hl1:=x2.len
  have hNlt:=rI.lt
  have hqd:N / 2^k<10:=by rw [Nat.div_lt_iff_lt_mul hp];exact hNlt
  refine iteB (fun hn=>⟨by omega,?_⟩) fun hn=> ?_
  ·have hn:(N:Int)>0:=of_decide_eq_true hn
   have hmd:=Nat.mod_lt N hp
   have hrest:=zwm1 (n:=N) k2 (by omega)
   have ev:IntKind.wrap .u64 (((N%2^k:Nat):Int)*(10:Int))=((N%2^k*10:Nat):Int):=by rw [zah];omega
   rw [hsh,zlm1 (by omega) k2,ev]
   refine JoinW1.intro (fun w m=>∃(i:Nat) (ds1:List Nat) (tr1:Bool),w=(i:Int)∧i≤800∧DX h0 m b ds1 n (dp-((r:Int)-1)) neg tr1∧RInv ds1 i (N%2^k*10) N0 k) ?_ ?_
   ·generalize hdw:decide ((i:Int)<800)=dw
    cases dw with
    | true=>
     have hw:(i:Int)<800:=of_decide_eq_true hdw
     rw [if_pos rfl]
     refine zaf ⟨⟨by omega,by omega⟩,?_⟩
     rw [Int.toNat_natCast,decAt]
     refine x2.putD (c:=48+N / 2^k) (by omega) (digB hqd) fun m3 x3=> ?_
     rw [zac (by omega) (by omega)]
     exact ⟨i+1,_,tr1,rfl,by omega,x3,rI.step (by omega) 0 (by decide)⟩
    | false=>
     have hw:¬(i:Int)<800:=of_decide_eq_false hdw
     rw [if_neg (by decide)]
     refine iteB (fun _=>zaf (x2.putTr fun m3 x3=>⟨i,ds1,true,rfl,hi,x3,rI.rest (by omega)⟩)) fun _=>⟨i,ds1,tr1,rfl,hi,x2,rI.rest (by omega)⟩
   rintro _ m3 ⟨i3,ds3,tr3,rfl,hi3,x3,rI3⟩
   exact ⟨⟨i3,_,ds3,tr3,rfl,rfl,hi3,x3,rI3⟩,by rw [Int.toNat_natCast,Int.toNat_natCast];exact hrest⟩
  ·have hn:¬(N:Int)>0:=fun e=>hn (decide_eq_true e)
   have hhead:1≤i∧ds1.getD 0 0=48+N0 / 2^k:=by
    rcases rI.head with ⟨e1,e2⟩ | e
    ·omega
    ·exact e
   refine zaf (x2.putNd fun m3 x3=> ?_)
   have g3:GoodD ds1 i:=⟨hhead.1,hi,(zuo (by omega)).2 rI.digs,48+N0 / 2^k,by
    have:=hhead.2
    rw [List.getD,List.getElem?_eq_getElem (show 0<ds1.length by omega)] at this
    rw [List.getElem?_eq_getElem (show 0<ds1.length by omega)]
    exact congrArg some this,by omega,by omega⟩
   refine zkj (zqu1 x3 g3 fun m4 q x4 g4=>hk m4 ds1 q r tr1 x4 g4 r1 (by omega) rk4 fun e=> ?_)
   rcases rk3 e with e3 | e3
   ·exact .inl e3
   ·exact .inr ⟨e3.1,hhead.2.trans (h49 e e3.2)⟩
end
end Lf

namespace Lf
open Go Go.Proofs
def Cheats (h:Hp):Prop:=∃a c,LdIs h ⟨9,0,none⟩ [.slice (some a) 61 c]∧∀k,k<61→LdIs h (Addr.add (Addr.add a (k*2)) 0) [.int .i64 (newD k:Int)]∧LdIs h (Addr.add (Addr.add a (k*2)) 1) [.string (strN (fiveL k))]
theorem Cheats.mono {h h':Hp} (e:Cheats h) (hl:h≤h'):Cheats h':=by
 obtain ⟨a,c,e1,e2⟩:=e
 exact ⟨a,c,zbd hl e1,fun k hk=>⟨zbd hl (e2 k hk).1,zbd hl (e2 k hk).2⟩⟩
theorem zxc1 :∀k,k<61→newD k≤19:=by decide+kernel
theorem zzt1 {k:Nat} (h:1≤k):1≤newD k:=by unfold newD;rw [if_neg (by omega)];exact zoi _
section
variable {h0 h:Hp} {b:Nat} {ds:List Nat} {dp:Int} {neg tr:Bool}
theorem zxd1 {v:Nat} (hv:v<18446744073709551616):IntKind.wrap .u64 ((v:Int)-(IntKind.wrap .u64 ((10:Int)*(IntKind.wrap .u64 (Int.tdiv (v:Int) (10:Int))))))=((v%10:Nat):Int):=by
 rw [show Int.tdiv (v:Int) (10:Int)=((v / 10:Nat):Int) from tdivN,wrapN (by omega),show (10:Int)*((v / 10:Nat):Int)=((10*(v / 10):Nat):Int) by omega,wrapN (by omega),zah]
 omega
theorem zxe1 {v:Nat} (hv:v<18446744073709551616):IntKind.wrap .u64 (Int.tdiv (v:Int) (10:Int))=((v / 10:Nat):Int):=by
 rw [show Int.tdiv (v:Int) (10:Int)=((v / 10:Nat):Int) from tdivN,wrapN (by omega)]
theorem zzu1 {n k c:Nat} {Q:Hp→Prop} (t:Cheats h0) (x:DX h0 h b ds n dp neg tr) (g:GoodD ds n) (hc:ds[0]? =some c) (k1:1≤k) (k2:k≤60) (d0: -1000000000000000≤dp) (d1:dp≤1000000000000000)
  (hk:∀h' ds' (m D:Nat) tr',DX h0 h' b ds' m (dp+(D:Int)) neg tr'→GoodD ds' m→newD k≤D+1→D≤newD k→(D=0→(c-48)*2^k≤ds'.getD 0 0-48)→Q h'):zfk Tryz.prog (some ⟨b,0,none⟩) (k:Int) Q h:=by
 have h2:2^k≤2^60:=Nat.pow_le_pow_right (by decide) k2
 have hp:=Nat.two_pow_pos k
 have hl:=x.len
 have g1:=g.pos
 have g2:=g.most
 obtain ⟨c',hc',c49,c58⟩:=g.head
 have ecc:c'=c:=Option.some.inj (hc'.symm.trans hc)
 rw [ecc] at c49 c58
 have hdig:=(zuo (i:=n) (by omega)).1 g.digs
 have hnew:=zxc1 k (by omega)
 have hnew1:=zzt1 k1
 have hc0:ds.getD 0 0=c:=by rw [List.getD,hc];rfl
 have htl:(ds.take n).length=n:=by rw [List.length_take];omega
 have hhead:(ds.take n)[0]? =some c:=by rw [List.getElem?_take,if_pos (by omega)];exact hc
 obtain ⟨a,cap,t1,t2⟩:=t
 obtain ⟨t3,t4⟩:=t2 k (by omega)
 have s3:sat (some a) 2 (k:Int)=Addr.add a (k*2):=by unfold sat;rw [Int.toNat_natCast];rfl
 unfold zfk
 refine ld_c (sh:=shSl) ⟨some a,61,cap⟩ (zbd x.le t1) ⟨⟨by simp,by omega,by show (k:Int)<((61:Nat):Int);omega⟩,?_⟩
 dsimp only
 rw [s3]
 refine ld_c (sh:=shInt .i64) (newD k:Int) (zbd x.le t3) ?_
 refine JoinW1.intro (fun d m=>m=h∧∃(lt:Bool) (D:Nat),d=(D:Int)∧D=(if lt then newD k-1 else newD k)∧LessL lt (ds.take n) k) ?_ ?_
 ·refine zaf (zaf (ld_c (sh:=shInt .i64) (n:Int) x.ndAt ⟨⟨by decide,by omega,by omega⟩,letW ?_⟩))
  refine ld_c (sh:=shSl) ⟨some a,61,cap⟩ (zbd x.le t1) ⟨⟨by simp,by omega,by show (k:Int)<((61:Nat):Int);omega⟩,?_⟩
  dsimp only
  rw [s3]
  refine ld_c (sh:=shStr) (strN (fiveL k)) (zbd x.le t4) ?_
  have eb:sbase (some (Addr.add (⟨b,0,none⟩:Addr) 0)) 1 0 800=some ⟨b,0,none⟩:=by rw [zak];unfold sbase;rw [if_neg (by decide)];show some (Addr.add _ _)=_;rw [zak]
  rw [eb,Int.toNat_natCast,Nat.sub_zero]
  refine zke (b:=⟨some ⟨b,0,none⟩,n,800⟩) (zzs1 (x.row g2) g.digs (by omega) k1 (by omega) fun lt hlt=> ?_)
  cases lt with
  | true=>
   refine iteT rfl ⟨rfl,true,newD k-1,?_,rfl,hlt⟩
   rw [zac (by omega) (by omega)];omega
  | false=>exact iteF (by decide) ⟨rfl,false,newD k,rfl,rfl,hlt⟩
 rintro _ _ ⟨rfl,lt,D,rfl,hD,hlt⟩
 have hDb:newD k≤D+1∧D≤newD k:=by rw [hD];split<;>omega
 obtain ⟨q1,q2,q3⟩:=znq1 g.digs hhead c49 k1 (by omega) hlt hD
 rw [htl] at q1 q2
 clear hlt hD lt
 refine zaf (ld_c (sh:=shInt .i64) (n:Int) x.ndAt (zaf (ld_c (sh:=shInt .i64) (n:Int) x.ndAt ?_)))
 rw [zac (n:=(n:Int)-1) (by omega) (by omega),zac (n:=(n:Int)+(D:Int)) (by omega) (by omega)]
 have hX:∀j,j≤n→(ds.take n).take j=ds.take j:=fun j hj=>by rw [List.take_take,Nat.min_eq_left hj]
 refine LoopW3.intro (fun r w v m=>∃(j N:Nat) (ds1:List Nat) (tr1:Bool),r=(j:Int)-1∧w=((j+D:Nat):Int)∧v=(N:Int)∧j≤n∧N<2^k∧numV (ds.take j)*2^k+N=numV (ds.take n)*2^k / 10^(n-j)∧DX h0 m b ds1 n dp neg tr1∧
   (∀q,q<j→ds1.getD q 0=ds.getD q 0)∧(∀q,j+D≤q→q<n+D→q<800→48≤ds1.getD q 0∧ds1.getD q 0<58)∧(D=0→j=0→(c-48)*2^k≤ds1.getD 0 0-48)) (fun r _ _ _=>(r+1).toNat)
  ⟨n,0,ds,tr,rfl,by omega,rfl,by omega,hp,by rw [Nat.sub_self,Nat.pow_zero,Nat.div_one,Nat.add_zero],x,fun _ _=>rfl,fun q a1 a2=>by omega,fun _ e=>by omega⟩ ?_
 rintro _ _ _ m ⟨j,N,ds1,tr1,rfl,rfl,rfl,hj,hN,hV,x1,hold,hnw,hh0⟩
 have hl1:=x1.len
 refine iteB (fun hr=> ?_) fun hr=> ?_
 ·have hr:(j:Int)-1≥0:=of_decide_eq_true hr
  obtain ⟨i,rfl⟩:∃i,j=i+1:=⟨j-1,by omega⟩
  have hdi:=hdig i (by omega)
  have hoi:=hold i (by omega)
  have ei:((i+1:Nat):Int)-1=(i:Int):=by omega
  rw [ei]
  refine zaf ⟨⟨by omega,by omega⟩,?_⟩
  rw [Int.toNat_natCast,decAt]
  refine ld_c (sh:=shInt .u8) ((ds1.getD i 0:Nat):Int) (x1.digit (by omega)) ⟨by omega,by decide,?_⟩
  rw [hoi]
  obtain ⟨d,hd⟩:∃d,ds.getD i 0=48+d:=⟨ds.getD i 0-48,by omega⟩
  have hd10:d<10:=by omega
  rw [hd]
  have hsh:shlI .u64 (IntKind.wrap .u64 ((IntKind.wrap .u64 ((48+d:Nat):Int))-(48:Int))) (k:Int)=((d*2^k:Nat):Int):=by
   rw [show IntKind.wrap .u64 ((IntKind.wrap .u64 ((48+d:Nat):Int))-(48:Int))=(d:Int) by rw [zah,zah];omega]
   refine shlN (by omega) ?_
   have:=Nat.mul_le_mul (show d≤9 by omega) h2
   omega
  have hVb:N+d*2^k<10*2^k:=by
   have:=Nat.mul_le_mul_right (2^k) (show d≤9 by omega)
   omega
  have eV:IntKind.wrap .u64 ((N:Int)+((d*2^k:Nat):Int))=((N+d*2^k:Nat):Int):=by rw [zah];omega
  rw [hsh,eV,zxd1 (by omega),zxe1 (by omega)]
  have ew:IntKind.wrap .i64 (((i+1+D:Nat):Int)-1)=((i+D:Nat):Int):=by rw [zac (by omega) (by omega)];omega
  rw [ew,zac (n:=(i:Int)-1) (by omega) (by omega)]
  have hnt:=zrm (ds:=ds) (i:=i) (z:=48+d) (by rw [←hd];simp [List.getD,show i<ds.length by omega])
  rw [show 48+d-48=d by omega] at hnt
  have hV2:numV (ds.take i)*2^k+(N+d*2^k) / 10=numV (ds.take n)*2^k / 10^(n-i):=by
   rw [hnt] at hV
   have:=zwn1 hV
   rw [show n-(i+1)+1=n-i by omega] at this
   exact this
  have hq2:(N+d*2^k) / 10<2^k:=by omega
  have hzero:D=0→i=0→N+d*2^k<10∧d=c-48:=fun e1 e2=>by
   subst e1 e2
   rw [List.take_zero,show numV []=0 from rfl,Nat.zero_mul,Nat.zero_add,Nat.sub_zero] at hV2
   rw [Nat.pow_zero] at q1
   refine ⟨by omega,by omega⟩
  refine JoinW0.intro (fun m=>∃(ds2:List Nat) (tr2:Bool),DX h0 m b ds2 n dp neg tr2∧(∀q,q<i→ds2.getD q 0=ds.getD q 0)∧(∀q,i+D≤q→q<n+D→q<800→48≤ds2.getD q 0∧ds2.getD q 0<58)∧(D=0→i=0→(c-48)*2^k≤ds2.getD 0 0-48)) ?_ ?_
  ·generalize hdw:decide (((i+D:Nat):Int)<800)=dw
   cases dw with
   | true=>
    have hw:((i+D:Nat):Int)<800:=of_decide_eq_true hdw
    rw [if_pos rfl]
    refine zaf ⟨⟨by omega,by omega⟩,?_⟩
    rw [Int.toNat_natCast,decAt]
    have hm10:=Nat.mod_lt (N+d*2^k) (show 0<10 by decide)
    refine x1.putD (c:=48+(N+d*2^k)%10) (by omega) (digB hm10) fun m2 x2=>⟨_,tr1,x2,fun q hq=> ?_,fun q a1 a2 a3=> ?_,fun e1 e2=> ?_⟩
    ·rw [zqt (by omega),if_neg (by omega)];exact hold q (by omega)
    ·rw [zqt (by omega)]
     by_cases e:i+D=q
     ·rw [if_pos e]
      generalize (N+d*2^k)%10=z at*
      omega
     ·rw [if_neg e];exact hnw q (by omega) a2 a3
    ·obtain ⟨z1,z2⟩:=hzero e1 e2
     rw [zqt (by omega),if_pos (by omega),Nat.mod_eq_of_lt z1,z2]
     omega
   | false=>
    have hw:¬((i+D:Nat):Int)<800:=of_decide_eq_false hdw
    rw [if_neg (by decide)]
    have keep:(∀q,q<i→ds1.getD q 0=ds.getD q 0)∧(∀q,i+D≤q→q<n+D→q<800→48≤ds1.getD q 0∧ds1.getD q 0<58)∧(D=0→i=0→(c-48)*2^k≤ds1.getD 0 0-48):=
     ⟨fun q hq=>hold q (by omega),fun q a1 a2 a3=>by omega,fun e1 e2=>by omega⟩
    exact iteB (fun _=>zaf (x1.putTr fun m2 x2=>⟨ds1,true,x2,keep⟩)) fun _=>⟨ds1,tr1,x1,keep⟩
  rintro m2 ⟨ds2,tr2,x2,e1,e2,e3⟩
  exact ⟨⟨i,_,ds2,tr2,rfl,rfl,rfl,by omega,hq2,hV2,x2,e1,e2,e3⟩,by omega⟩
 ·have hr:¬(j:Int)-1≥0:=fun e=>hr (decide_eq_true e)
  have hj0:j=0:=by omega
  subst hj0
  rw [List.take_zero,show numV []=0 from rfl,Nat.zero_mul,Nat.zero_add,Nat.sub_zero] at hV
  rw [←hV] at q1 q2
  have hh0':=fun e=>hh0 e rfl
  refine LoopW2.intro (fun w v m=>∃(W N:Nat) (ds1:List Nat),w=(W:Int)∧v=(N:Int)∧W≤D∧N<2^k∧N<10^W∧(1≤W→10^(W-1)≤N)∧DX h0 m b ds1 n dp neg tr1∧(∀q,W≤q→q<n+D→q<800→48≤ds1.getD q 0∧ds1.getD q 0<58)∧(W=0→49≤ds1.getD 0 0)∧(D=0→(c-48)*2^k≤ds1.getD 0 0-48)) (fun w _ _=>w.toNat)
   ⟨D,N,ds1,by omega,rfl,Nat.le_refl _,hN,q1,q2,x1,fun q a1 a2 a3=>hnw q (by omega) a2 a3,fun e=> ?_,hh0'⟩ ?_
  ·have:=hh0' e
   have:=Nat.mul_le_mul (show 1≤c-48 by omega) hp
   omega
  clear hh0 hh0' hnw hold x1 hl1 hr q1 q2 hV hN ds1 m N
  rintro _ _ m ⟨W,N,ds1,rfl,rfl,hW,hN,n1,n2,x1,hnw,hh1,hh0⟩
  have hl1:=x1.len
  refine iteB (fun hn=>⟨by decide,?_⟩) fun hn=> ?_
  ·have hn:(N:Int)>0:=of_decide_eq_true hn
   have hW1:1≤W:=by
    refine Nat.pos_of_ne_zero fun e=> ?_
    subst e
    rw [Nat.pow_zero] at n1
    omega
   obtain ⟨V,rfl⟩:∃V,W=V+1:=⟨W-1,by omega⟩
   have n2:=n2 hW1
   rw [Nat.add_sub_cancel] at n2
   rw [Nat.pow_succ] at n1
   have ew:IntKind.wrap .i64 (((V+1:Nat):Int)-1)=(V:Int):=by rw [zac (by omega) (by omega)];omega
   rw [ew,zxd1 (by omega),zxe1 (by omega)]
   have hm10:=Nat.mod_lt N (show 0<10 by decide)
   refine JoinW0.intro (fun m=>∃ds2:List Nat,DX h0 m b ds2 n dp neg tr1∧(∀q,V≤q→q<n+D→q<800→48≤ds2.getD q 0∧ds2.getD q 0<58)∧(V=0→49≤ds2.getD 0 0)) ?_ ?_
   ·rw [decide_eq_true (show (V:Int)<800 by omega),if_pos rfl]
    refine zaf ⟨⟨by omega,by omega⟩,?_⟩
    rw [Int.toNat_natCast,decAt]
    refine x1.putD (c:=48+N%10) (by omega) (digB hm10) fun m2 x2=>⟨_,x2,fun q a1 a2 a3=> ?_,fun e=> ?_⟩
    ·rw [zqt (by omega)]
     by_cases e:V=q
     ·rw [if_pos e];omega
     ·rw [if_neg e];exact hnw q (by omega) a2 a3
    ·subst e
     rw [Nat.pow_zero] at n1 n2
     rw [zqt (by omega),if_pos rfl]
     omega
   rintro m2 ⟨ds2,x2,e1,e2⟩
   refine ⟨⟨V,N / 10,ds2,rfl,rfl,by omega,by omega,by omega,fun v1=> ?_,x2,e1,e2,fun e=>by omega⟩,by omega⟩
   obtain ⟨U,rfl⟩:∃U,V=U+1:=⟨V-1,by omega⟩
   rw [Nat.pow_succ] at n2
   rw [Nat.add_sub_cancel]
   omega
  ·have hn:¬(N:Int)>0:=fun e=>hn (decide_eq_true e)
   have hW0:W=0:=by
    refine Classical.byContradiction fun e=> ?_
    have:=n2 (by omega)
    have:=Nat.pow_pos (n:=W-1) (show 0<10 by decide)
    omega
   subst hW0
   have h49:=hh1 rfl
   refine zaf (ld_c (sh:=shInt .i64) (n:Int) x1.ndAt (zaf ?_))
   rw [zac (by omega) (by omega),show (n:Int)+(D:Int)=((n+D:Nat):Int) by omega]
   refine x1.putNd fun m2 x2=> ?_
   refine JoinW0.intro (fun m=>∃M:Nat,1≤M∧M≤800∧M≤n+D∧DX h0 m b ds1 M dp neg tr1) ?_ ?_
   ·refine zaf (ld_c (sh:=shInt .i64) ((n+D:Nat):Int) x2.ndAt ?_)
    generalize hdw:decide (((n+D:Nat):Int)≥800)=dw
    cases dw with
    | true=>
     have hw:((n+D:Nat):Int)≥800:=of_decide_eq_true hdw
     rw [if_pos rfl]
     exact zaf (x2.putNd fun m3 x3=>⟨800,by decide,by decide,by omega,x3⟩)
    | false=>
     have hw:¬((n+D:Nat):Int)≥800:=of_decide_eq_false hdw
     rw [if_neg (by decide)]
     exact ⟨n+D,by omega,by omega,Nat.le_refl _,x2⟩
   rintro m3 ⟨M,M1,M2,M3,x3⟩
   refine zaf (ld_c (sh:=shInt .i64) dp x3.dpAt (zaf ?_))
   rw [zac (by omega) (by omega)]
   refine x3.putDp fun m4 x4=> ?_
   have d0':=hnw 0 (by omega) (by omega) (by decide)
   have g3:GoodD ds1 M:=⟨M1,M2,(zuo (by omega)).2 fun q hq=>hnw q (by omega) (by omega) (by omega),ds1.getD 0 0,by simp [List.getD,show 0<ds1.length by omega],h49,d0'.2⟩
   exact zkj (zqu1 x4 g3 fun m5 q x5 g5=>hk m5 ds1 q D tr1 x5 g5 hDb.1 hDb.2 hh0)
end
end Lf

namespace Lf
open Go Go.Proofs
def dpOf (h:Hp) (b:Nat):Int:=match hcell h ⟨b,801,none⟩ with
 | some (.int _ n)=>n
 | _=>0
def d0Of (h:Hp) (b:Nat):Nat:=match hcell h ⟨b,0,none⟩ with
 | some (.int _ n)=>n.toNat
 | _=>0
section
variable {h0 h:Hp} {b:Nat} {ds:List Nat} {dp:Int} {neg tr:Bool}
theorem DX.dpIs {nd:Int} (x:DX h0 h b ds nd dp neg tr):dpOf h b=dp:=by
 have:=x.dpAt 0 _ rfl
 rw [zak,zak] at this
 unfold dpOf
 rw [show 0+801+0=801 from rfl] at this
 rw [this]
theorem DX.d0Is {nd:Int} (x:DX h0 h b ds nd dp neg tr):d0Of h b=ds.getD 0 0:=by
 have:=x.digit (i:=0) (by decide) 0 _ rfl
 rw [zak] at this
 unfold d0Of
 rw [show 0+0=0 from rfl] at this
 rw [this]
 exact Int.toNat_natCast _
theorem GoodD.first {n:Nat} (g:GoodD ds n):ds[0]? =some (ds.getD 0 0)∧49≤ds.getD 0 0∧ds.getD 0 0<58:=by
 obtain ⟨c,hc,c1,c2⟩:=g.head
 have:ds.getD 0 0=c:=by rw [List.getD,hc];rfl
 rw [this]
 exact ⟨hc,c1,c2⟩
theorem zny1 {n k:Nat} {Q:Hp→Prop} (x:DX h0 h b ds n dp neg tr) (g:GoodD ds n) (k1:1≤k) (k2:k≤60) (d0: -1000000000000000≤dp) (d1:dp≤1000000000000000)
  (hk:∀h' ds' (m r:Nat) tr',DX h0 h' b ds' m (dp-((r:Int)-1)) neg tr'→GoodD ds' m→1≤r→r≤900→(4≤k→2≤r)→(k=3→2≤r∨(56≤ds.getD 0 0∧ds'.getD 0 0=49))→Q h'):zas Tryz.prog (some ⟨b,0,none⟩) (-(k:Int)) Q h:=by
 unfold zas
 have gp:=g.pos
 refine zaf (ld_c (sh:=shInt .i64) (n:Int) x.ndAt (iteF (fun hh=>by have:((n:Nat):Int)=0:=beq_iff_eq.1 hh;omega) (iteF (fun hh=>by have:=of_decide_eq_true hh;omega) (iteT (decide_eq_true (by omega)) ?_))))
 refine LoopW1.intro (fun k1 m=>m=h∧k1= -(k:Int)) (fun _ _=>0) ⟨rfl,rfl⟩ ?_
 rintro _ m ⟨rfl,rfl⟩
 have e:IntKind.wrap .u64 (IntKind.wrap .i64 ((0:Int)-(-(k:Int))))=(k:Int):=by rw [zac (by omega) (by omega),zah];omega
 rw [e]
 refine iteF (fun hh=>by have:=of_decide_eq_true hh;omega) (zdr (zfa1 x g g.first.1 k1 k2 d0 d1 hk))
theorem zfb1 {n:Nat} {K:Int} {Q:Hp→Prop} (x:DX h0 h b ds n dp neg tr) (g:GoodD ds n) (k1:K<0) (k2: -100000000≤K) (d0: -1000000000≤dp) (d1:dp≤1000000000)
  (hk:∀h' ds' (m:Nat) dp' tr',DX h0 h' b ds' m dp' neg tr'→GoodD ds' m→ -100000000000000≤dp'→dp'≤dp→Q h'):zas Tryz.prog (some ⟨b,0,none⟩) K Q h:=by
 unfold zas
 have gp:=g.pos
 refine zaf (ld_c (sh:=shInt .i64) (n:Int) x.ndAt (iteF (fun hh=>by have:((n:Nat):Int)=0:=beq_iff_eq.1 hh;omega) (iteF (fun hh=>by have:=of_decide_eq_true hh;omega) (iteT (decide_eq_true k1) ?_))))
 refine LoopW1.intro (fun k m=>K≤k∧k<0∧∃(ds1:List Nat) (n1:Nat) (dp1:Int) (tr1:Bool),DX h0 m b ds1 n1 dp1 neg tr1∧GoodD ds1 n1∧dp1≤dp∧dp-15*(k-K)≤dp1) (fun k _=>(-k).toNat) ⟨Int.le_refl _,k1,ds,n,dp,tr,x,g,Int.le_refl _,by omega⟩ ?_
 rintro k m ⟨a1,a2,ds1,n1,dp1,tr1,x1,g1,b1,b2⟩
 refine iteB (fun hc=> ?_) fun hc=> ?_
 ·have hc:k< -60:=of_decide_eq_true hc
  refine zdr (zfa1 (k:=60) x1 g1 g1.first.1 (by decide) (by decide) (by omega) (by omega) fun m2 ds2 q r tr2 x2 g2 r1 r2 _ _=> ?_)
  rw [zac (by omega) (by omega)]
  exact ⟨⟨by omega,by omega,ds2,q,_,tr2,x2,g2,by omega,by omega⟩,by omega⟩
 ·have hc:¬k< -60:=fun e=>hc (decide_eq_true e)
  obtain ⟨j,rfl⟩:∃j:Nat,k= -(j:Int):=⟨(-k).toNat,by omega⟩
  have e:IntKind.wrap .u64 (IntKind.wrap .i64 ((0:Int)-(-(j:Int))))=(j:Int):=by rw [zac (by omega) (by omega),zah];omega
  rw [e]
  refine zdr (zfa1 (k:=j) x1 g1 g1.first.1 (by omega) (by omega) (by omega) (by omega) fun m2 ds2 q r tr2 x2 g2 r1 r2 _ _=> ?_)
  exact hk m2 ds2 q _ tr2 x2 g2 (by omega) (by omega)
theorem zhg1 {n k:Nat} {Q:Hp→Prop} (t:Cheats h0) (x:DX h0 h b ds n dp neg tr) (g:GoodD ds n) (k1:1≤k) (k2:k≤60) (d0: -1000000000000000≤dp) (d1:dp≤1000000000000000)
  (hk:∀h' ds' (m D:Nat) tr',DX h0 h' b ds' m (dp+(D:Int)) neg tr'→GoodD ds' m→newD k≤D+1→D≤newD k→(D=0→(ds.getD 0 0-48)*2^k≤ds'.getD 0 0-48)→Q h'):zas Tryz.prog (some ⟨b,0,none⟩) (k:Int) Q h:=by
 unfold zas
 have gp:=g.pos
 refine zaf (ld_c (sh:=shInt .i64) (n:Int) x.ndAt (iteF (fun hh=>by have:((n:Nat):Int)=0:=beq_iff_eq.1 hh;omega) (iteT (decide_eq_true (by omega)) ?_)))
 refine LoopW1.intro (fun k1 m=>m=h∧k1=(k:Int)) (fun _ _=>0) ⟨rfl,rfl⟩ ?_
 rintro _ m ⟨rfl,rfl⟩
 rw [show IntKind.wrap .u64 (k:Int)=(k:Int) by rw [zah];omega]
 exact iteF (fun hh=>by have:=of_decide_eq_true hh;omega) (zoe (zzu1 t x g g.first.1 k1 k2 d0 d1 hk))
theorem znz1 {n:Nat} {i:Int} {Q:Bool→Hp→Prop} (x:DX h0 h b ds n dp neg tr) (hn:n≤800) (hq:∀v,Q v h):zdp Tryz.prog (some ⟨b,0,none⟩) i Q h:=by
 unfold zdp
 refine zaf (ld_c (sh:=shInt .i64) (n:Int) x.ndAt (letW (iteB (fun _=>hq _) fun hy=> ?_)))
 have hi:0≤i∧i<(n:Int):=by
  rw [Bool.or_eq_true,not_or] at hy
  have h1:¬i<0:=fun e=>hy.1 (decide_eq_true e)
  have h2:¬i≥(n:Int):=fun e=>hy.2 (decide_eq_true e)
  omega
 obtain ⟨j,rfl⟩:=Int.eq_ofNat_of_zero_le hi.1
 refine zaf ⟨⟨by omega,by omega⟩,?_⟩
 rw [Int.toNat_natCast,decAt]
 refine ld_c (sh:=shInt .u8) _ (x.digit (by omega)) (zaf (ld_c (sh:=shInt .i64) (n:Int) x.ndAt (letW (iteB (fun _=> ?_) fun _=> ?_))))
 ·refine zaf (ld_c (sh:=zag) tr x.trAt (iteB (fun _=>hq _) fun _=>zaf ⟨fun hh=> ?_,?_⟩))
  ·have:=of_decide_eq_true hh
   rw [zac (by omega) (by omega)]
   exact ⟨by omega,by omega⟩
  ·by_cases hj:j=0
   ·subst hj
    exact ⟨(0:Int),fun e:decide (((0:Nat):Int)>0)=true=>absurd e (by decide),fun e:decide (((0:Nat):Int)>0)=true=>absurd e (by decide),letW (hq _)⟩
   ·have e1:IntKind.wrap .i64 ((j:Int)-1)=((j-1:Nat):Int):=by rw [zac (by omega) (by omega)];omega
    rw [e1,Int.toNat_natCast,decAt]
    exact ld_c (sh:=shInt .u8) _ (x.digit (by omega)) ⟨fun _=>by decide,letW (hq _)⟩
 ·refine zaf ⟨⟨by omega,by omega⟩,?_⟩
  rw [decAt]
  exact ld_c (sh:=shInt .u8) _ (x.digit (by omega)) (hq _)
theorem zoa1 {n:Nat} {Q:Int→Hp→Prop} (x:DX h0 h b ds n dp neg tr) (hn:n≤800) (hq:∀v,U64 v→Q v h):zbw Tryz.prog (some ⟨b,0,none⟩) Q h:=by
 unfold zbw
 refine zaf (ld_c (sh:=shInt .i64) dp x.dpAt (iteB (fun _=>hq _ ⟨18446744073709551615,rfl,by decide⟩) fun h20=> ?_))
 have h20:¬dp>20:=fun e=>h20 (decide_eq_true e)
 refine LoopW2.intro (fun i v m=>m=h∧0≤i∧i≤1000∧U64 v) (fun i _ _=>(1000-i).toNat) ⟨rfl,by omega,by omega,0,rfl,by decide⟩ ?_
 rintro i v m ⟨rfl,i0,i1,hv⟩
 refine zaf (ld_c (sh:=shInt .i64) dp x.dpAt (zaf (ld_c (sh:=shInt .i64) (n:Int) x.ndAt (letW (iteB (fun hy=> ?_) fun _=> ?_)))))
 ·rw [Bool.and_eq_true] at hy
  have h1:=of_decide_eq_true hy.1
  have h2:=of_decide_eq_true hy.2
  obtain ⟨j,rfl⟩:=Int.eq_ofNat_of_zero_le i0
  refine zaf ⟨⟨by omega,by omega⟩,?_⟩
  rw [Int.toNat_natCast,decAt,zac (by omega) (by omega)]
  exact ld_c (sh:=shInt .u8) _ (x.digit (by omega)) ⟨⟨rfl,by omega,by omega,zqs _⟩,by omega⟩
 ·refine LoopW2.intro (fun i v k=>k=m∧0≤i∧i≤1000∧U64 v) (fun i _ _=>(1000-i).toNat) ⟨rfl,i0,i1,hv⟩ ?_
  rintro i v m ⟨rfl,i0,i1,hv⟩
  refine zaf (ld_c (sh:=shInt .i64) dp x.dpAt (iteB (fun hc=> ?_) fun _=> ?_))
  ·have hc:=of_decide_eq_true hc
   rw [zac (by omega) (by omega)]
   exact ⟨⟨rfl,by omega,by omega,zqs _⟩,by omega⟩
  ·refine zaf (ld_c (sh:=shInt .i64) dp x.dpAt (zln (znz1 x hn fun r=>iteB (fun _=>hq _ (zqs _)) fun _=>hq _ hv)))
end
end Lf

namespace Lf
open Go Go.Proofs
def powL :List Int:=[1,3,6,9,13,16,19,23,26]
def pN (i:Nat):Nat:=if 9≤i then 27 else [1,3,6,9,13,16,19,23,26].getD i 0
theorem zaw2 :∀i,i<9→powL[i]? =some (pN i:Int)∧1≤pN i∧pN i≤27∧(2≤i→6≤pN i):=by decide
theorem pN_in (i:Nat):1≤pN i∧pN i≤27∧(2≤i→6≤pN i):=by
 by_cases h:9≤i
 ·unfold pN
  rw [if_pos h]
  omega
 ·exact (zaw2 i (by omega)).2
def PowT (h:Hp):Prop:=∃a c,LdIs h ⟨11,0,none⟩ [.slice (some a) 9 c]∧LdIs h a (powL.map fun x=>.int .i64 x)
structure SEnv (h:Hp):Prop where
 hx:HEnv h
 ch:Cheats h
 pw:PowT h
theorem SEnv.mono {h h':Hp} (e:SEnv h) (hl:h≤h'):SEnv h':=by
 obtain ⟨a,c,e1,e2⟩:=e.pw
 exact ⟨e.hx.mono hl,e.ch.mono hl,a,c,zbd hl e1,zbd hl e2⟩
section
variable {h0 h:Hp} {b:Nat} {ds:List Nat} {dp:Int} {neg tr:Bool}
theorem zbx1 {n:Int} {f:Int→Int→Int} {g:Int} {ov:Bool} {Q:Int→Bool→Hp→Prop} (c0:LdIs h (Addr.add ⟨7,0,none⟩ 0) [.int .u64 52]) (c1:LdIs h (Addr.add ⟨7,0,none⟩ 1) [.int .u64 11]) (x:DX h0 h b ds n dp neg tr)
  (hf:∀a b,U64 (f a b)) (hg:U64 g) (hq:∀v ov,U64 v→Q v ov h):NilW none (some ⟨b,0,none⟩) fun p=>LdW none zag h (Addr.add p 802) fun x6=>
   (if x6=true then
   NilW none (some ⟨7,0,none⟩) fun p7=>LdW none (shInt .u64) h (Addr.add p7 0) fun x7=>
   ((0:Int)≤x7∧NilW none (some ⟨7,0,none⟩) fun p8=>LdW none (shInt .u64) h (Addr.add p8 1) fun x8=>
   ((0:Int)≤x8∧Q (f x7 x8) ov h))
   else
   Q g ov h):=
 zaf (ld_c (sh:=zag) neg x.negAt (iteB (fun _=>zaf (ld_c (sh:=shInt .u64) (52:Int) c0 ⟨by decide,zaf (ld_c (sh:=shInt .u64) (11:Int) c1 ⟨by decide,hq _ _ (hf _ _)⟩)⟩)) fun _=>hq _ _ hg))
theorem zxf1 {n:Nat} {i:Int} {K:Int→Hp→Prop} {A:Int→Int} (pw:PowT h) (x:DX h0 h b ds n dp neg tr) (hA:A dp=i) (i0:0≤i) (hk:K (pN i.toNat:Int) h):
  NilW none (some ⟨b,0,none⟩) fun p4=>LdW none (shInt .i64) h (Addr.add p4 801) fun x4=>LdW none shSl h ⟨11,0,none⟩ fun x5=>
   (if (decide (A x4≥((x5.len:Nat):Int)))=true then
   K (27:Int) h
   else
   LdW none shSl h ⟨11,0,none⟩ fun x6=>NilW none (some ⟨b,0,none⟩) fun p5=>LdW none (shInt .i64) h (Addr.add p5 801) fun x7=>
   ((InB x6.base x6.len (A x7))∧LdW none (shInt .i64) h (sat x6.base 1 (A x7)) fun x8=>
   K x8 h)):=by
 obtain ⟨a,c,e1,e2⟩:=pw
 obtain ⟨j,rfl⟩:=Int.eq_ofNat_of_zero_le i0
 rw [Int.toNat_natCast] at hk
 refine zaf (ld_c (sh:=shInt .i64) dp x.dpAt (ld_c (sh:=shSl) ⟨some a,9,c⟩ e1 ?_))
 rw [hA]
 by_cases hj:9≤j
 ·have:pN j=27:=by unfold pN;rw [if_pos hj]
  rw [this] at hk
  exact iteT (decide_eq_true (by show (j:Int)≥((9:Nat):Int);omega)) hk
 ·refine iteF (fun hh=>by have h9:(j:Int)≥((9:Nat):Int):=of_decide_eq_true hh;omega) ?_
  refine ld_c (sh:=shSl) ⟨some a,9,c⟩ e1 (zaf (ld_c (sh:=shInt .i64) dp x.dpAt ?_))
  rw [hA]
  refine ⟨⟨by simp,by omega,by show (j:Int)<((9:Nat):Int);omega⟩,ld_c (sh:=shInt .i64) (pN j:Int) ?_ hk⟩
  show LdIs h (Addr.add a (Int.toNat (j:Int)*1)) [.int .i64 (pN j:Int)]
  rw [Int.toNat_natCast,Nat.mul_one]
  exact zsl (e2 j _ (by rw [List.getElem?_map,(zaw2 j (by omega)).1];rfl))
theorem zqv1 (e:HEnv h):LdIs h (Addr.add ⟨7,0,none⟩ 0) [.int .u64 52]∧LdIs h (Addr.add ⟨7,0,none⟩ 1) [.int .u64 11]∧LdIs h (Addr.add ⟨7,0,none⟩ 2) [.int .i64 (-1023)]:=
 ⟨by rw [zak];exact e.i0,by rw [zak];exact e.i1,by rw [zak];exact e.i2⟩
theorem zjg1 {n:Nat} {Q:Int→Bool→Hp→Prop} (e:SEnv h0) (x:DX h0 h b ds n dp neg tr) (g:n=0∨GoodD ds n) (hq:∀v ov h',h0≤h'→U64 v→Q v ov h'):
  zcn Tryz.prog (some ⟨b,0,none⟩) (some ⟨7,0,none⟩) Q h:=by
 obtain ⟨c0,c1,c2⟩:=zqv1 (e.hx.mono x.le)
 have hqh:∀v ov,U64 v→Q v ov h:=fun v ov hv=>hq v ov h x.le hv
 unfold zcn
 refine zaf (ld_c (sh:=shInt .i64) (n:Int) x.ndAt (iteB (fun _=> ?_) fun hn=> ?_))
 ·refine zaf (ld_c (sh:=shInt .i64) (-1023:Int) c2 (zaf (ld_c (sh:=shInt .u64) (52:Int) c0 ⟨by decide,zaf (ld_c (sh:=shInt .i64) (-1023:Int) c2 (zaf (ld_c (sh:=shInt .u64) (11:Int) c1 ⟨by decide,zaf (ld_c (sh:=shInt .u64) (52:Int) c0 ⟨by decide,?_⟩)⟩)))⟩)))
  exact zbx1 c0 c1 x (fun _ _=>zaz _ _ _) (zaz _ _ _) hqh
 have g:GoodD ds n:=g.resolve_left fun e=>hn (by rw [e];rfl)
 refine zaf (ld_c (sh:=shInt .i64) dp x.dpAt (iteB (fun _=> ?_) fun h310=> ?_))
 ·refine zaf (ld_c (sh:=shInt .u64) (11:Int) c1 ⟨by decide,zaf (ld_c (sh:=shInt .i64) (-1023:Int) c2 (zaf (ld_c (sh:=shInt .u64) (52:Int) c0 ⟨by decide,zaf (ld_c (sh:=shInt .i64) (-1023:Int) c2 (zaf (ld_c (sh:=shInt .u64) (11:Int) c1 ⟨by decide,zaf (ld_c (sh:=shInt .u64) (52:Int) c0 ⟨by decide,?_⟩)⟩)))⟩)))⟩)
  exact zbx1 c0 c1 x (fun _ _=>zaz _ _ _) (zaz _ _ _) hqh
 have h310:¬dp>310:=fun e=>h310 (decide_eq_true e)
 refine zaf (ld_c (sh:=shInt .i64) dp x.dpAt (iteB (fun _=> ?_) fun h330=> ?_))
 ·refine zaf (ld_c (sh:=shInt .i64) (-1023:Int) c2 (zaf (ld_c (sh:=shInt .u64) (52:Int) c0 ⟨by decide,zaf (ld_c (sh:=shInt .i64) (-1023:Int) c2 (zaf (ld_c (sh:=shInt .u64) (11:Int) c1 ⟨by decide,zaf (ld_c (sh:=shInt .u64) (52:Int) c0 ⟨by decide,?_⟩)⟩)))⟩)))
  exact zbx1 c0 c1 x (fun _ _=>zaz _ _ _) (zaz _ _ _) hqh
 have h330:¬dp< -330:=fun e=>h330 (decide_eq_true e)
 refine LoopW1.intro (fun ex m=>∃(ds1:List Nat) (n1:Nat) (dp1:Int) (tr1:Bool),DX h0 m b ds1 n1 dp1 neg tr1∧GoodD ds1 n1∧ -2000≤dp1∧dp1≤310∧0≤ex∧ex+27*((dp1.toNat*10+ds1.getD 0 0:Nat):Int)≤1000000) (fun _ m=>(dpOf m b).toNat*10+d0Of m b)
  ⟨ds,n,dp,tr,x,g,by omega,by omega,by omega,by have:=g.first;omega⟩ ?_
 rintro ex m ⟨ds1,n1,dp1,tr1,x1,g1,d0,d1,e0,e1⟩
 obtain ⟨-,f1,f2⟩:=g1.first
 refine zaf (ld_c (sh:=shInt .i64) dp1 x1.dpAt (iteB (fun hd=> ?_) fun hd=> ?_))
 ·have hd:dp1>0:=of_decide_eq_true hd
  obtain ⟨p1,p2,p3⟩:=pN_in dp1.toNat
  refine JoinW1.intro (fun k m2=>m2=m∧k=(pN dp1.toNat:Int)) ?_ ?_
  ·exact zxf1 (K:=fun k m2=>m2=m∧k=(pN dp1.toNat:Int)) (A:=fun x=>x) ((e.mono x1.le).pw) x1 rfl (by omega) ⟨rfl,rfl⟩
  rintro _ m ⟨rfl,rfl⟩
  rw [zac (n:=(0:Int)-_) (by omega) (by omega),show (0:Int)-(pN dp1.toNat:Int)= -(pN dp1.toNat:Int) by omega,zac (n:=ex+_) (by omega) (by omega)]
  refine zbr (zny1 x1 g1 p1 (by omega) (by omega) (by omega) fun m2 ds2 q r tr2 x2 g2 r1 r2 r4 r3=> ?_)
  obtain ⟨-,f3,f4⟩:=g2.first
  have key:(dp1-((r:Int)-1)).toNat*10+ds2.getD 0 0<dp1.toNat*10+ds1.getD 0 0:=by
   by_cases h2:2≤dp1.toNat
   ·have:=r4 (by have:=p3 h2;omega)
    omega
   ·have h1:dp1=1:=by omega
    subst h1
    rcases r3 (by decide) with r3 | ⟨r3,r5⟩
    ·omega
    ·omega
  refine ⟨⟨ds2,q,_,tr2,x2,g2,by omega,by omega,by omega,by omega⟩,?_⟩
  rw [x2.dpIs,x2.d0Is,x1.dpIs,x1.d0Is]
  exact key
 have hd:¬dp1>0:=fun e=>hd (decide_eq_true e)
 refine LoopW1.intro (fun ex m=>∃(ds2:List Nat) (n2:Nat) (dp2:Int) (tr2:Bool),DX h0 m b ds2 n2 dp2 neg tr2∧GoodD ds2 n2∧ -2000≤dp2∧dp2≤1000∧ex≤1000000∧27*(((1-dp2).toNat*10+(58-ds2.getD 0 0):Nat):Int)-2000000≤ex) (fun _ m=>(1-dpOf m b).toNat*10+(58-d0Of m b))
  ⟨ds1,n1,dp1,tr1,x1,g1,by omega,by omega,by omega,by omega⟩ ?_
 rintro ex m ⟨ds1,n1,dp1,tr1,x1,g1,d0,d1,e0,e1⟩
 obtain ⟨c0,c1,c2⟩:=zqv1 (e.hx.mono x1.le)
 obtain ⟨-,f1,f2⟩:=g1.first
 refine zaf (ld_c (sh:=shInt .i64) dp1 x1.dpAt (zaf (ld_c (sh:=shInt .i64) dp1 x1.dpAt (zaf ⟨fun _=>by decide,?_⟩))))
 have ea:Addr.add (Addr.add (⟨b,0,none⟩:Addr) 0) 0=⟨b,0,none⟩:=by rw [zak,zak]
 rw [ea]
 refine ld_c (sh:=shInt .u8) ((ds1.getD 0 0:Nat):Int) (x1.digit (by decide)) (letW (letW (iteB (fun hy=> ?_) fun _=> ?_)))
 ·have hc:dp1<0∨(dp1=0∧ds1.getD 0 0<53):=by
   rw [Bool.or_eq_true,Bool.and_eq_true] at hy
   rcases hy with hy | hy
   ·exact .inl (of_decide_eq_true hy)
   ·refine .inr ⟨beq_iff_eq.1 hy.1,?_⟩
    have:((ds1.getD 0 0:Nat):Int)<53:=of_decide_eq_true hy.2
    omega
  obtain ⟨p1,p2,p3⟩:=pN_in (-dp1).toNat
  refine JoinW1.intro (fun k m2=>m2=m∧k=(pN (-dp1).toNat:Int)) ?_ ?_
  ·exact zxf1 (K:=fun k m2=>m2=m∧k=(pN (-dp1).toNat:Int)) (A:=fun x=>IntKind.wrap .i64 ((0:Int)-x)) (i:= -dp1) ((e.mono x1.le).pw) x1 (by show IntKind.wrap .i64 ((0:Int)-dp1)= -dp1;rw [zac (by omega) (by omega)];omega) (by omega) ⟨rfl,rfl⟩
  rintro _ m ⟨rfl,rfl⟩
  rw [zac (n:=ex-_) (by omega) (by omega)]
  refine zbr (zhg1 e.ch x1 g1 p1 (by omega) (by omega) (by omega) fun m2 ds2 q D tr2 x2 g2 a1 a2 a3=> ?_)
  obtain ⟨-,f3,f4⟩:=g2.first
  have hnd:=zxc1 (pN (-dp1).toNat) (by omega)
  have key:(1-(dp1+(D:Int))).toNat*10+(58-ds2.getD 0 0)<(1-dp1).toNat*10+(58-ds1.getD 0 0):=by
   by_cases hD:D=0
   ·have:=a3 hD
    have h2:2≤2^pN (-dp1).toNat:=Nat.pow_le_pow_right (n:=2) (i:=1) (by decide) p1
    have:=Nat.mul_le_mul_left (ds1.getD 0 0-48) h2
    subst hD
    omega
   ·omega
  refine ⟨⟨ds2,q,_,tr2,x2,g2,by omega,by omega,by omega,by omega⟩,?_⟩
  rw [x2.dpIs,x2.d0Is,x1.dpIs,x1.d0Is]
  exact key
 refine JoinW1.intro (fun ex m=>∃(ds2:List Nat) (n2:Nat) (dp2:Int) (tr2:Bool),DX h0 m b ds2 n2 dp2 neg tr2∧GoodD ds2 n2∧ -100000000000000≤dp2∧dp2≤1000) ?_ ?_
 ·refine zaf (ld_c (sh:=shInt .i64) (-1023:Int) c2 ?_)
  rw [zac (n:=ex-1) (by omega) (by omega),show IntKind.wrap .i64 ((-1023:Int)+1)= -1022 by decide]
  refine iteB (fun hlt=> ?_) fun _=>⟨ds1,n1,dp1,tr1,x1,g1,by omega,by omega⟩
  have hlt:ex-1< -1022:=of_decide_eq_true hlt
  refine zaf (ld_c (sh:=shInt .i64) (-1023:Int) c2 ?_)
  rw [show IntKind.wrap .i64 ((-1023:Int)+1)= -1022 by decide,zac (n:=(-1022:Int)-(ex-1)) (by omega) (by omega),zac (n:=(0:Int)-_) (by omega) (by omega)]
  exact zbr (zfb1 x1 g1 (by omega) (by omega) (by omega) (by omega) fun m2 ds2 q dp2 tr2 x2 g2 b1 b2=>⟨ds2,q,dp2,tr2,x2,g2,b1,by omega⟩)
 rintro ex2 m ⟨ds1,n1,dp1,tr1,x1,g1,d0,d1⟩
 obtain ⟨c0,c1,c2⟩:=zqv1 (e.hx.mono x1.le)
 refine zaf (ld_c (sh:=shInt .i64) (-1023:Int) c2 (zaf (ld_c (sh:=shInt .u64) (11:Int) c1 ⟨by decide,iteB (fun _=> ?_) fun _=> ?_⟩)))
 ·refine zaf (ld_c (sh:=shInt .u64) (11:Int) c1 ⟨by decide,zaf (ld_c (sh:=shInt .i64) (-1023:Int) c2 (zaf (ld_c (sh:=shInt .u64) (52:Int) c0 ⟨by decide,zaf (ld_c (sh:=shInt .i64) (-1023:Int) c2 (zaf (ld_c (sh:=shInt .u64) (11:Int) c1 ⟨by decide,zaf (ld_c (sh:=shInt .u64) (52:Int) c0 ⟨by decide,?_⟩)⟩)))⟩)))⟩)
  exact zbx1 c0 c1 x1 (fun _ _=>zaz _ _ _) (zaz _ _ _) fun v ov hv=>hq v ov m x1.le hv
 refine zaf (ld_c (sh:=shInt .u64) (52:Int) c0 ?_)
 rw [show IntKind.wrap .i64 (IntKind.wrap .u64 ((1:Int)+52))=((53:Nat):Int) by decide]
 refine zbr (zhg1 e.ch x1 g1 (by decide) (by decide) (by omega) (by omega) fun m2 ds2 q D tr2 x2 g2 _ _ _=> ?_)
 obtain ⟨c0,c1,c2⟩:=zqv1 (e.hx.mono x2.le)
 have hq2:∀v ov,U64 v→Q v ov m2:=fun v ov hv=>hq v ov m2 x2.le hv
 refine zhy (zoa1 x2 g2.most fun r hr=> ?_)
 refine JoinW2.intro (fun _ _ k=>m2=k) ?_ ?_
 ·refine zaf (ld_c (sh:=shInt .u64) (52:Int) c0 ⟨by decide,iteB (fun _=>⟨by decide,zaf (ld_c (sh:=shInt .i64) (-1023:Int) c2 (zaf (ld_c (sh:=shInt .u64) (11:Int) c1 ⟨by decide,iteB (fun _=> ?_) fun _=>rfl⟩)))⟩) fun _=>rfl⟩)
  refine zaf (ld_c (sh:=shInt .u64) (11:Int) c1 ⟨by decide,zaf (ld_c (sh:=shInt .i64) (-1023:Int) c2 (zaf (ld_c (sh:=shInt .u64) (52:Int) c0 ⟨by decide,zaf (ld_c (sh:=shInt .i64) (-1023:Int) c2 (zaf (ld_c (sh:=shInt .u64) (11:Int) c1 ⟨by decide,zaf (ld_c (sh:=shInt .u64) (52:Int) c0 ⟨by decide,?_⟩)⟩)))⟩)))⟩)
  exact zbx1 c0 c1 x2 (fun _ _=>zaz _ _ _) (zaz _ _ _) hq2
 rintro ex3 mant m2 rfl
 refine JoinW1.intro (fun _ k=>m2=k) (zaf (ld_c (sh:=shInt .u64) (52:Int) c0 ⟨by decide,iteB (fun _=>zaf (ld_c (sh:=shInt .i64) (-1023:Int) c2 rfl)) fun _=>rfl⟩)) ?_
 rintro ex4 m2 rfl
 refine zaf (ld_c (sh:=shInt .u64) (52:Int) c0 ⟨by decide,zaf (ld_c (sh:=shInt .i64) (-1023:Int) c2 (zaf (ld_c (sh:=shInt .u64) (11:Int) c1 ⟨by decide,zaf (ld_c (sh:=shInt .u64) (52:Int) c0 ⟨by decide,?_⟩)⟩)))⟩)
 exact zbx1 c0 c1 x2 (fun _ _=>zaz _ _ _) (zaz _ _ _) hq2
end
end Lf

namespace Lf
open Go Go.Proofs
section
variable {h0 h:Hp} {b:Nat} {ds:List Nat} {dp:Int} {neg tr:Bool}
theorem zxg1 {n c:Nat} (hl:ds.length=800) (g:n=0∨GoodD ds n) (hn:n<800) (hc:48≤c∧c<58) (h0:n=0→c≠48):GoodD (ds.set n c) (n+1):=by
 refine ⟨by omega,by omega,(zuo (by rw [List.length_set];omega)).2 fun q hq=> ?_,?_⟩
 ·rw [zqt (by omega)]
  by_cases e:n=q
  ·rw [if_pos e];exact hc
  ·rw [if_neg e]
   have g:=g.resolve_left fun e=>by omega
   exact (zuo (by omega)).1 g.digs q (by omega)
 ·rw [List.getElem?_set]
  by_cases e:n=0
  ·subst e
   rw [if_pos rfl,if_pos (by omega)]
   exact ⟨c,rfl,by have:=h0 rfl;omega,hc.2⟩
  ·rw [if_neg e]
   exact (g.resolve_left e).head
theorem zcy2 {s:ByteArray} {Q:Bool→Hp→Prop} (hs:s.size<4611686018427387904) (x:DX h0 h b ds 0 dp neg tr) (hq:∀h' ds' (n:Nat) dp' neg' tr' ok,DX h0 h' b ds' n dp' neg' tr'→(n=0∨GoodD ds' n)→Q ok h'):
  zem Tryz.prog (some ⟨b,0,none⟩) s Q h:=by
 unfold zem
 refine zaf (x.putNeg fun h x=>zaf (x.putTr fun h x=> ?_))
 generalize hN:s.size=N at*
 refine iteB (fun _=>hq h ds 0 _ _ _ _ x (.inl rfl)) fun hN0=> ?_
 have hN0:¬(0:Int)≥(N:Int):=fun e=>hN0 (decide_eq_true e)
 refine ⟨⟨by decide,by omega⟩,JoinW1.intro (fun i k=>0≤i∧i≤(N:Int)∧∃neg,DX h0 k b ds ((0:Nat):Int) dp neg false) (iteB (fun _=>⟨by omega,by omega,_,x⟩) fun _=>iteB (fun _=>zaf (x.putNeg fun h x=>⟨by omega,by omega,_,x⟩)) fun _=>⟨by omega,by omega,_,x⟩) ?_⟩
 clear x
 rintro i h ⟨i0,i1,neg,x⟩
 refine JoinW3.intro (fun i _ _ k=>0≤i∧i≤(N:Int)∧∃(ds:List Nat) (n:Nat) (dp:Int) (neg tr:Bool),DX h0 k b ds (n:Int) dp neg tr∧(n=0∨GoodD ds n)) ?_ ?_
 ·refine LoopW3.intro (fun i _ _ k=>0≤i∧i≤(N:Int)∧∃(ds:List Nat) (n:Nat) (dp:Int) (neg tr:Bool),DX h0 k b ds (n:Int) dp neg tr∧(n=0∨GoodD ds n)) (fun i _ _ _=>(N-i).toNat) ⟨i0,i1,ds,0,dp,neg,false,x,.inl rfl⟩ ?_
  clear x i0 i1 i
  rintro i sd sg h ⟨i0,i1,ds,n,dp,neg,tr,x,g⟩
  refine iteB (fun hi=> ?_) fun _=>⟨i0,i1,ds,n,dp,neg,tr,x,g⟩
  have hi:=of_decide_eq_true hi
  have hin:(0:Int)≤i∧i<(N:Int):=⟨i0,hi⟩
  refine JoinW2.intro (fun _ _ k=>∃(ds:List Nat) (n:Nat) (dp:Int) (neg tr:Bool),DX h0 k b ds (n:Int) dp neg tr∧(n=0∨GoodD ds n)) ?_ ?_
  ·generalize hc:UInt8.toNat (List.getD s.data.toList (Int.toNat i) 0)=c
   refine ⟨hin,iteB (fun _=>⟨ds,n,dp,neg,tr,x,g⟩) fun _=>⟨hin,iteB (fun _=>iteB (fun _=>hq h ds n _ _ _ _ x g) fun _=> ?_) fun _=>⟨hin,fun _=>hin,letW (iteB (fun hy=>⟨hin,?_⟩) fun _=>⟨i0,i1,ds,n,dp,neg,tr,x,g⟩)⟩⟩⟩
   ·exact zaf (ld_c (sh:=shInt .i64) (n:Int) x.ndAt (zaf (x.putDp fun h x=>⟨ds,n,_,neg,tr,x,g⟩)))
   rw [Bool.and_eq_true] at hy
   have c0:(48:Int)≤(c:Int):=of_decide_eq_true hy.1
   have c1:(c:Int)≤57:=of_decide_eq_true hy.2
   refine zaf (ld_c (sh:=shInt .i64) (n:Int) x.ndAt (letW (iteB (fun _=> ?_) fun hz=> ?_)))
   ·exact zaf (ld_c (sh:=shInt .i64) dp x.dpAt (zaf (x.putDp fun h x=>⟨ds,n,_,neg,tr,x,g⟩)))
   have hz:n=0→c≠48:=fun e1 e2=>by subst e1;subst e2;exact hz rfl
   refine zaf (ld_c (sh:=shInt .i64) (n:Int) x.ndAt ?_)
   generalize hd:decide ((n:Int)<800)=lt
   refine iteB (fun hn=> ?_) fun _=>⟨hin,iteB (fun _=>zaf (x.putTr fun h x=>⟨ds,n,dp,neg,_,x,g⟩)) fun _=>⟨ds,n,dp,neg,tr,x,g⟩⟩
   rw [hn] at hd
   have hn:(n:Int)<800:=of_decide_eq_true hd
   refine zaf (ld_c (sh:=shInt .i64) (n:Int) x.ndAt ⟨hin,zaf ⟨⟨by omega,hn⟩,?_⟩⟩)
   rw [Int.toNat_natCast,decAt]
   refine x.putD (by omega) rfl fun h x=>zaf (ld_c (sh:=shInt .i64) (n:Int) x.ndAt (zaf ?_))
   rw [zac (n:=(n:Int)+1) (by omega) (by omega)]
   have hl:=x.len
   rw [List.length_set] at hl
   exact x.putNd fun h x=>⟨_,n+1,dp,neg,tr,x,.inr (zxg1 hl g (by omega) ⟨by omega,by omega⟩ hz)⟩
  rintro sd sg h ⟨ds,n,dp,neg,tr,x,g⟩
  rw [zac (n:=i+1) (by omega) (by omega)]
  exact ⟨⟨by omega,by omega,ds,n,dp,neg,tr,x,g⟩,by omega⟩
 clear x i0 i1 i
 rintro i sd sg h ⟨i0,i1,ds,n,dp,neg,tr,x,g⟩
 refine iteB (fun _=>hq h ds n _ _ _ _ x g) fun _=> ?_
 refine JoinW0.intro (fun k=>∃dp,DX h0 k b ds (n:Int) dp neg tr) (iteB (fun _=>zaf (ld_c (sh:=shInt .i64) (n:Int) x.ndAt (zaf (x.putDp fun h x=>⟨_,x⟩)))) fun _=>⟨_,x⟩) ?_
 clear x
 rintro h ⟨dp,x⟩
 refine ⟨fun hh=>⟨i0,of_decide_eq_true hh⟩,lowE fun r=>letW (iteB (fun hy=> ?_) fun _=>iteB (fun _=>hq h ds n _ _ _ _ x g) fun _=>hq h ds n _ _ _ _ x g)⟩
 rw [Bool.and_eq_true] at hy
 have hi:=of_decide_eq_true hy.1
 rw [zac (n:=i+1) (by omega) (by omega)]
 refine iteB (fun _=>hq h ds n _ _ _ _ x g) fun h1=> ?_
 have h1:¬i+1≥(N:Int):=fun e=>h1 (decide_eq_true e)
 refine ⟨⟨by omega,by omega⟩,JoinW2.intro (fun i3 _ k=>k=h∧0≤i3∧i3≤(N:Int)) ?_ ?_⟩
 ·rw [zac (n:=i+1+1) (by omega) (by omega)]
  exact iteB (fun _=>⟨rfl,by omega,by omega⟩) fun _=>iteB (fun _=>⟨rfl,by omega,by omega⟩) fun _=>⟨rfl,by omega,by omega⟩
 rintro i3 es h ⟨rfl,j0,j1⟩
 refine ⟨fun hh=>⟨j0,?_⟩,letW ⟨fun hh=>⟨j0,?_⟩,letW (iteB (fun _=>hq h ds n _ _ _ _ x g) fun hy2=> ?_)⟩⟩
 ·have:¬i3≥(N:Int):=fun e=>by rw [decide_eq_true e] at hh;cases hh
  omega
 ·have:¬i3≥(N:Int):=fun e=>by rw [decide_eq_true e,Bool.true_or] at hh;cases hh
  omega
 refine LoopW2.intro (fun i4 _ k=>k=h∧0≤i4∧i4≤(N:Int)) (fun i4 _ _=>(N-i4).toNat) ⟨rfl,j0,j1⟩ ?_
 rintro i4 e4 h ⟨rfl,k0,k1⟩
 refine ⟨fun hh=>⟨k0,of_decide_eq_true hh⟩,fun hh=>⟨k0,by rw [Bool.and_eq_true] at hh;exact of_decide_eq_true hh.1⟩,letW ⟨fun hh=>⟨k0,by rw [Bool.and_eq_true] at hh;exact of_decide_eq_true hh.1⟩,letW (letW (iteB (fun hy=> ?_) fun _=> ?_))⟩⟩
 ·rw [Bool.and_eq_true] at hy
  have hi4:=of_decide_eq_true hy.1
  refine JoinW1.intro (fun _ k=>k=h) ⟨⟨k0,hi4⟩,iteB (fun _=>rfl) fun _=>iteB (fun _=>⟨⟨k0,hi4⟩,rfl⟩) fun _=>rfl⟩ ?_
  rintro e5 h rfl
  rw [zac (n:=i4+1) (by omega) (by omega)]
  exact ⟨⟨rfl,by omega,by omega⟩,by omega⟩
 ·exact zaf (ld_c (sh:=shInt .i64) dp x.dpAt (zaf (x.putDp fun h x=>iteB (fun _=>hq h ds n _ _ _ _ x g) fun _=>hq h ds n _ _ _ _ x g)))
end
end Lf

namespace Lf
open Go Go.Proofs
structure AEnv (h:Hp):Prop where
 fe:FEnv h
 se:SEnv h
theorem AEnv.mono {h h':Hp} (e:AEnv h) (hl:h≤h'):AEnv h':=⟨e.fe.mono hl,e.se.mono hl⟩
abbrev ErK (er:Leaf):Prop:=er.v=.nilIface∨∃k:Int,(k=1∨k=2)∧er.v=.iface 122 (.int .i64 k)
theorem ErOk.k {er:Leaf} (h:ErOk er):ErK er:=h.imp id fun e=>⟨1,.inl rfl,e⟩
def leafN :Leaf:=⟨.nilIface,rfl⟩
def leafE (k:Int):Leaf:=⟨.iface 122 (.int .i64 k),rfl⟩
theorem zzx :ErK leafN:=.inl rfl
theorem ztn {k:Int} (h:k=1∨k=2):ErK (leafE k):=.inr ⟨k,h,rfl⟩
section
variable {h:Hp}
theorem encN {K:Leaf→Prop} (hk:K leafN):EncW zal .nilIface K:=⟨leafN,rfl,hk⟩
theorem encE {k:Int} {K:Leaf→Prop} (hk:K (leafE k)):EncW zal (.iface 122 (.int .i64 k)) K:=⟨leafE k,rfl,hk⟩
theorem encL {er:Leaf} {K:Leaf→Prop} (hk:K er):EncW zal er.v K:=⟨er,rfl,hk⟩
theorem zzv1 {s:ByteArray} {n:Int} {er:Leaf} {Q:Nat→Int→Leaf→Hp→Prop} (e:AEnv h) (hs:s.size<4611686018427387904) (n0:0≤n) (n1:n≤(s.size:Int)) (hq:∀(f:Nat) (er2:Leaf) h',h≤h'→(ErK er2∨er2=er)→Q f n er2 h') {b:Nat} {ty:_}
  {cs:List Value} (hcs:cs=DecC (List.replicate 800 0) 0 0 false false) (hb:h b=none):
  (((0:Int)≤n∧n≤(((ByteArray.size s):Nat):Int))∧CallT Tryz.prog zei [(.pointer (some ⟨b,0,none⟩)),(.string (ByteArray.extract s 0 (Int.toNat n)))] zag (fun r10 h5=>
   (if (!r10)=true then
   EncW zal (.iface 122 (.int .i64 (2:Int))) fun e=>
   Q 0 n e h5
   else
   Call2 Tryz.prog zbk [(.pointer (some ⟨b,0,none⟩)),(.pointer (some ⟨7,0,none⟩))] (shInt .u64) zag (fun r11 r12 h6=>
   SemE Tryz.prog (Extern.MathFloatBits.float64frombits #[(.int .u64 r11)]) (shFlt .f64) (fun r13 h7=>
   (if r12=true then
   EncW zal (.iface 122 (.int .i64 (1:Int))) fun e=>
   Q r13 n e h7
   else
   EncW zal er.v fun e=>
   Q r13 n e h7)) h6) h5)) (h.set b (.cells cs.toArray ty (0,0)))):=by
 have hle:=znn (o:=.cells cs.toArray ty (0,0)) hb
 have x:DX h (h.set b (.cells cs.toArray ty (0,0))) b (List.replicate 800 0) 0 0 false false:=⟨hle,hb,List.length_replicate,ty,by rw [←hcs];exact zmh⟩
 generalize h.set b (.cells cs.toArray ty (0,0))=k at*
 refine ⟨⟨n0,n1⟩,zmq (zcy2 (by rw [ByteArray.size_extract];omega) x fun k2 ds m dp neg tr ok x2 g=> ?_)⟩
 refine iteB (fun _=>encE (hq _ _ _ x2.le (.inl (ztn (.inr rfl))))) fun _=> ?_
 refine zjz (zjg1 (e.se) x2 g fun v ov k3 hle3 hv=> ?_)
 obtain ⟨v,rfl,hv⟩:=hv
 exact zhc rfl hv (iteB (fun _=>encE (hq _ _ _ hle3 (.inl (ztn (.inl rfl))))) fun _=>encL (hq _ _ _ hle3 (.inr rfl)))
end
end Lf

namespace Lf
open Go Go.Proofs
section
variable {h:Hp}
theorem zxh1 (neg:Bool):shlI .u64 (if neg then (1:Int) else 0) (63:Int)=((sgn neg:Nat):Int)∧sgn neg<18446744073709551616:=by cases neg<;>decide
theorem zjh1 {neg:Bool} {Q:Int→Hp→Prop} (hq:Q (if neg then 1 else 0) h):zbi Tryz.prog neg Q h:=by
 unfold zbi
 cases neg
 ·exact iteF (by decide) hq
 ·exact iteT rfl hq
set_option maxRecDepth 200000 in
theorem zsr1 {s:ByteArray} {Q:Nat→Int→Leaf→Hp→Prop} (e:AEnv h) (hs:s.size<4611686018427387904) (hq:∀(f:Nat) (n:Int) (er:Leaf) h',h≤h'→ErK er→Q f n er h'):
  zam Tryz.prog s Q h:=by
 have here:∀(f:Nat) (n:Int) (er:Leaf),ErK er→Q f n er h:=fun f n er k=>hq f n er h (Hp.le_refl h) k
 unfold zam
 refine zbt (znx1 hs fun f n ok=>iteB (fun _=>encN (here _ _ _ zzx)) fun _=> ?_)
 refine zcf (zjf1 hs fun m p neg tr hex i ok hm hi=> ?_)
 refine iteB (fun _=>encE (here _ _ _ (ztn (.inr rfl)))) fun hok=> ?_
 have hok:ok=true:=by cases ok;exact absurd rfl hok;rfl
 obtain ⟨i0,i1⟩:=hi hok
 refine iteB (fun _=>⟨⟨i0,i1⟩,zpk (zcx2 e.se.hx hm fun f er k=>encL (here _ _ _ k.k))⟩) fun _=> ?_
 refine JoinW2.intro (fun n er k=>h≤k∧0≤n∧n≤(s.size:Int)∧ErK er) ?_ ?_
 ·refine ld_at (sh:=zag) true e.fe.opt (iteT rfl (zan (zjh1 ⟨by decide,?_⟩)))
  obtain ⟨es,hsg⟩:=zxh1 neg
  rw [es]
  have hz:U64 (bitsI .or .u64 ((sgn neg:Nat):Int) (0:Int)):=zaz _ _ _
  have hy:U64 (bitsI .or .u64 ((sgn neg:Nat):Int) (9218868437227405312:Int)):=zaz _ _ _
  obtain ⟨z,ez,hz⟩:=hz
  obtain ⟨y,ey,hy⟩:=hy
  refine iteB (fun _=>zhc ez hz (encN (here _ _ _ zzx))) fun hm0=> ?_
  refine iteB (fun _=>zhc ey hy (encE (here _ _ _ (ztn (.inl rfl))))) fun hp1=> ?_
  have hp1:¬p>310:=fun e=>hp1 (decide_eq_true e)
  refine iteB (fun _=>zhc ez hz (encN (here _ _ _ zzx))) fun hp0=> ?_
  have hp0:¬p< -345:=fun e=>hp0 (decide_eq_true e)
  have hm0:0<m:=Nat.pos_of_ne_zero fun e=>hm0 (by rw [e];rfl)
  refine JoinW2.intro (fun n er k=>h≤k∧n=i∧ErK er) ?_ ?_
  ·refine iteB (fun _=>zdj (zqt1 (r:=0) e.fe hm0 hm (by omega) (by omega) fun f ok _=>iteB (fun _=>encN (here _ _ _ zzx)) fun _=>encN ⟨Hp.le_refl h,rfl,zzx⟩)) fun _=>encN ⟨Hp.le_refl h,rfl,zzx⟩
  rintro _ er k ⟨hk,rfl,ker⟩
  refine zdf (zex1 (e.mono hk).fe.pow hm hsg (by omega) (by omega) fun f1 er1 k1 hk1 ok1=> ?_)
  have l1:=Hp.le_trans hk hk1
  refine iteB (fun _=>encL (hq _ _ _ _ l1 ok1.k)) fun _=> ?_
  obtain ⟨m2,em2,hm2⟩:=zqs ((m:Int)+1)
  rw [em2]
  refine zdf (zex1 (e.mono l1).fe.pow hm2 hsg (by omega) (by omega) fun f2 er2 k2 hk2 ok2=> ?_)
  have l2:=Hp.le_trans l1 hk2
  exact zav2 (sh:=zag) (v:=f64.format.order f1 f2==some .eq) rfl (iteB (fun _=>encL (hq _ _ _ _ l2 ok1.k)) fun _=>encL ⟨l2,i0,i1,ker⟩)
 rintro n er k ⟨hk,n0,n1,ker⟩
 intro b ty hb
 refine zzv1 (e.mono hk) hs n0 n1 (fun f er2 k2 hk2 he=>hq _ _ _ _ (Hp.le_trans hk hk2) (he.elim id fun e=>e▸ker)) rfl hb
end
end Lf

namespace Lf
open Go Go.Proofs
section
variable {h:Hp}
theorem zss1 {r:Nat} {neg:Bool} {out:List Nat} {Q:Nat→Int→Leaf→Hp→Prop} (e:AEnv h) (h1:0<r) (h2:r<9218868437227405312) (ht:TextF r neg out) (hk:∀(er:Leaf) h',h≤h'→er.v=.nilIface→Q (sgn neg+r) (out.length:Int) er h'):
  zam Tryz.prog (strN out) Q h:=by
 obtain ⟨c,ds,eneg,xs,v,s,rfl,hc,hds,hl,hxs,x1,x2,ev,es,hv,hv57,s0,s1,he⟩:=zrn h1 h2 ht
 have hin:inF r (v*unitW 0 s)=true:=by rw [he];exact zzv h1 h2
 have hv0:0<v:=Nat.pos_of_ne_zero fun e=>hv (by rw [e])
 unfold zam
 refine zbt (zbv1 (by omega) (iteF (by decide) ?_))
 refine zcf (zch1 hc hds hl hxs x1 (by omega) (iteF (by decide) (iteF (by decide) (JoinW2.direct ?_))))
 rw [ev,es]
 refine ld_at (sh:=zag) true e.fe.opt (iteT rfl (zan (zjh1 ⟨by decide,?_⟩)))
 obtain ⟨ess,hsg⟩:=zxh1 neg
 rw [ess]
 refine iteF (fun hh=>by have:((v:Nat):Int)=0:=beq_iff_eq.1 hh;omega) ?_
 refine iteF (fun hh=>by have:s>310:=of_decide_eq_true hh;omega) (iteF (fun hh=>by have:s< -345:=of_decide_eq_true hh;omega) ?_)
 refine JoinW2.intro (fun n er k=>k=h∧n=((fltL neg c ds eneg xs).length:Int)) ?_ ?_
 ·refine iteT (by decide) (zdj (zqt1 (r:=r) e.fe hv0 (by omega) (by omega) (by omega) fun f ok hf=>iteB (fun hok=>encN ?_) fun _=>encN ⟨rfl,rfl⟩))
  have:=hf h1 h2 hin hok
  subst this
  exact hk _ h (Hp.le_refl h) rfl
 rintro _ er k ⟨rfl,rfl⟩
 exact zdf (zsq1 e.fe.pow h1 h2 hv57 hv0 (by omega) (by omega) hin fun er k1 hk1 her=>iteT (by decide) (encL (hk _ _ hk1 her)))
end
end Lf

namespace Lf
open Go Go.Proofs
section
variable {h:Hp}
def zeroL (neg:Bool):List Nat:=(if neg then [45] else [])++ [48,101,48]
def infL (neg:Bool):List Nat:=(if neg then [45] else [])++ [105,110,102]
theorem zfl1 {neg:Bool} {Q:Int→Int→Bool→Bool→Bool→Int→Bool→Hp→Prop} (hq:Q 0 0 neg false false ((zeroL neg).length:Int) true h):zax Tryz.prog (strN (zeroL neg)) Q h:=by
 unfold zax
 refine iteF (by cases neg<;>decide) ⟨by cases neg<;>decide,?_⟩
 refine JoinW2.intro (fun n i k=>k=h∧neg=n∧i=((sgnN neg:Nat):Int)) ?_ ?_
 ·cases neg with
  | true=>exact iteF (by decide) (iteT (by decide) ⟨rfl,rfl,rfl⟩)
  | false=>exact iteF (by decide) (iteF (by decide) ⟨rfl,rfl,rfl⟩)
 rintro _ _ h ⟨rfl,rfl,rfl⟩
 refine JoinW5.intro (fun hx i b m e k=>k=h∧hx=false∧i=((sgnN neg:Nat):Int)∧b=10∧m=19∧e=101) ?_ ?_
 ·refine ⟨fun _=>by cases neg<;>decide,letW ⟨fun _=>by cases neg<;>decide,?_⟩⟩
  refine ⟨fun _=>zav (zsm (letW (iteF ?_ ⟨rfl,rfl,rfl,rfl,rfl,rfl⟩))),fun _=>⟨(0:Int),letW (iteF ?_ ⟨rfl,rfl,rfl,rfl,rfl,rfl⟩)⟩⟩
  ·cases neg<;>decide
  ·cases neg<;>decide
 rintro _ _ _ _ _ h ⟨rfl,rfl,rfl,rfl,rfl,rfl⟩
 refine JoinW9.intro (fun m tr i us sd sg nd ndm dp k=>k=h∧m=0∧tr=false∧i=((sgnN neg+1:Nat):Int)∧us=false∧sd=false∧sg=true∧nd=0∧ndm=0) ?_ ?_
 ·refine LoopW9.intro (fun m tr i us sd sg nd ndm dp k=>k=h∧m=0∧tr=false∧us=false∧sd=false∧nd=0∧ndm=0∧((sg=false∧i=((sgnN neg:Nat):Int)∧dp=0)∨(sg=true∧i=((sgnN neg+1:Nat):Int))))
   (fun _ _ i _ _ _ _ _ _ _=>(4-i).toNat) ⟨rfl,rfl,rfl,rfl,rfl,rfl,rfl,.inl ⟨rfl,rfl,rfl⟩⟩ ?_
  rintro _ _ _ _ _ _ _ _ _ h ⟨rfl,rfl,rfl,rfl,rfl,rfl,rfl,(⟨rfl,rfl,rfl⟩ | ⟨rfl,rfl⟩)⟩
  ·refine iteT (by cases neg<;>decide) (JoinW8.direct ⟨by cases neg<;>decide,iteF (by cases neg<;>decide) (iteF (by cases neg<;>decide) (letW (iteT (by cases neg<;>decide) (letW (iteT (by cases neg<;>decide) ⟨⟨rfl,rfl,rfl,rfl,rfl,rfl,rfl,.inr ⟨rfl,?_⟩⟩,?_⟩)))))⟩)
   ·cases neg<;>decide
   ·cases neg<;>decide
  ·refine iteT (by cases neg<;>decide) (JoinW8.direct ⟨by cases neg<;>decide,iteF (by cases neg<;>decide) (iteF (by cases neg<;>decide) (letW (iteF (by cases neg<;>decide) ?_)))⟩)
   exact effF (by cases neg<;>decide) (0:Int) (letW (effF (by cases neg<;>decide) (0:Int) (letW (iteF (by cases neg<;>decide) ⟨rfl,rfl,rfl,rfl,rfl,rfl,rfl,rfl,rfl⟩))))
 rintro _ _ _ _ _ _ _ _ dp h ⟨rfl,rfl,rfl,rfl,rfl,rfl,rfl,rfl,rfl⟩
 refine iteF (by decide) (JoinW1.direct (iteT (by decide) (JoinW2.direct (iteF (by decide) ?_))))
 refine JoinW3.intro (fun i us dp k=>k=h∧i=((zeroL neg).length:Int)∧us=false) ?_ ?_
 ·refine ⟨fun _=>by cases neg<;>decide,⟨fun _=>zav (zsm ?_),fun hh=>absurd hh (by cases neg<;>decide)⟩⟩
  refine letW (iteT (by cases neg<;>decide) (iteF (by cases neg<;>decide) ⟨by cases neg<;>decide,JoinW2.intro (fun i e k=>k=h∧i=((sgnN neg+2:Nat):Int)) (iteF (by cases neg<;>decide) (iteF (by cases neg<;>decide) ⟨rfl,by cases neg<;>decide⟩)) ?_⟩))
  rintro _ es h ⟨rfl,rfl⟩
  refine ⟨fun _=>by cases neg<;>decide,letW ⟨fun _=>by cases neg<;>decide,letW (iteF (by cases neg<;>decide) ?_)⟩⟩
  refine LoopW3.intro (fun i us e k=>k=h∧us=false∧(i=((sgnN neg+2:Nat):Int)∨i=((zeroL neg).length:Int))) (fun i _ _ _=>(4-i).toNat) ⟨rfl,rfl,.inl rfl⟩ ?_
  rintro _ _ ex h ⟨rfl,rfl,(rfl | rfl)⟩
  ·refine ⟨fun _=>by cases neg<;>decide,fun _=>by cases neg<;>decide,letW ⟨fun _=>by cases neg<;>decide,letW (letW (iteT (by cases neg<;>decide) ?_))⟩⟩
   refine JoinW2.intro (fun us _ k=>k=h∧us=false) ⟨by cases neg<;>decide,iteF (by cases neg<;>decide) (iteB (fun _=>⟨by cases neg<;>decide,rfl,rfl⟩) fun _=>⟨rfl,rfl⟩)⟩ ?_
   rintro _ e5 h ⟨rfl,rfl⟩
   exact ⟨⟨rfl,rfl,.inr (by cases neg<;>decide)⟩,by cases neg<;>decide⟩
  ·refine ⟨fun hh=>absurd hh (by cases neg<;>decide),fun hh=>absurd hh (by cases neg<;>decide),letW ⟨fun hh=>absurd hh (by cases neg<;>decide),letW (letW (iteF (by cases neg<;>decide) ⟨rfl,rfl,rfl⟩))⟩⟩
 rintro _ _ dp3 h ⟨rfl,rfl,rfl⟩
 exact JoinW1.direct (iteF (by decide) ⟨fun hh=>(by cases hh),effF rfl true (letW (iteF (by decide) hq))⟩)
theorem zln1 {neg:Bool} {Q:Nat→Int→Bool→Hp→Prop} (hq:Q 0 0 false h):zba Tryz.prog (strN (zeroL neg)) Q h:=
 zbv1 (neg:=neg) (c:=48) (ds:=[]) (eneg:=false) (xs:=[48]) (by decide) hq
theorem zob1 {neg:Bool} {Q:Nat→Int→Leaf→Hp→Prop} (e:AEnv h) (hk:∀(er:Leaf) h',h≤h'→er.v=.nilIface→Q (sgn neg) ((zeroL neg).length:Int) er h'):zam Tryz.prog (strN (zeroL neg)) Q h:=by
 unfold zam
 refine zbt (zln1 (iteF (by decide) ?_))
 refine zcf (zfl1 (iteF (by decide) (iteF (by decide) (JoinW2.direct ?_))))
 refine ld_at (sh:=zag) true e.fe.opt (iteT rfl (zan (zjh1 ⟨by decide,?_⟩)))
 refine iteT (by decide) (zhc (n:=sgn neg) (by cases neg<;>decide) (by cases neg<;>decide) (encN (hk _ h (Hp.le_refl h) rfl)))
theorem zst1 {Q:Int→Hp→Prop} (hq:Q 3 h):zaj Tryz.prog (strN [105,110,102]) ⟨#[105,110,102,105,110,105,116,121]⟩ Q h:=by
 unfold zaj
 refine LoopW1.intro (fun i k=>k=h∧(i=0∨i=1∨i=2∨i=3)) (fun i _=>(3-i).toNat) ⟨rfl,.inl rfl⟩ ?_
 rintro _ h ⟨rfl,(rfl | rfl | rfl | rfl)⟩
 ·exact iteT (by decide) ⟨by decide,JoinW1.direct (letW (iteF (by decide) ⟨by decide,iteF (by decide) ⟨⟨rfl,.inr (.inl (by decide))⟩,by decide⟩⟩))⟩
 ·exact iteT (by decide) ⟨by decide,JoinW1.direct (letW (iteF (by decide) ⟨by decide,iteF (by decide) ⟨⟨rfl,.inr (.inr (.inl (by decide)))⟩,by decide⟩⟩))⟩
 ·exact iteT (by decide) ⟨by decide,JoinW1.direct (letW (iteF (by decide) ⟨by decide,iteF (by decide) ⟨⟨rfl,.inr (.inr (.inr (by decide)))⟩,by decide⟩⟩))⟩
 ·exact iteF (by decide) hq
theorem zsu1 {neg:Bool} {Q:Nat→Int→Leaf→Hp→Prop} (hk:∀(er:Leaf) h',h≤h'→er.v=.nilIface→Q (sgn neg+9218868437227405312) ((infL neg).length:Int) er h'):zam Tryz.prog (strN (infL neg)) Q h:=by
 unfold zam
 refine zbt ?_
 unfold zba
 refine iteF (by cases neg<;>decide) ⟨by cases neg<;>decide,?_⟩
 refine JoinW3.intro (fun s sg ns k=>k=h∧s=strN [105,110,102]∧sg=(if neg then -1 else 1)∧ns=(if neg then 1 else 0)) ?_ ?_
 ·cases neg with
  | true=>exact JoinW1.direct (iteF (by decide) (iteT (by decide) (JoinW1.direct ⟨by decide,iteT (by decide) ⟨by decide,rfl,rfl,rfl,rfl⟩⟩)))
  | false=>exact JoinW1.direct (iteF (by decide) (iteF (by decide) (JoinW1.direct (iteT (by decide) (iteT (by decide) ⟨rfl,rfl,rfl,rfl⟩)))))
 rintro _ _ _ h ⟨rfl,rfl,rfl,rfl⟩
 refine zat (zst1 (JoinW1.direct (letW (iteF (by decide) (letW (iteT (by decide) (zlb ?_)))))))
 unfold ziz
 cases neg with
 | true=>exact JoinW1.direct (iteF (by decide) (zhc (n:=18442240474082181120) rfl (by decide) (iteT (by decide) (encN (hk _ h (Hp.le_refl h) rfl)))))
 | false=>exact JoinW1.direct (iteT (by decide) (zhc (n:=9218868437227405312) rfl (by decide) (iteT (by decide) (encN (hk _ h (Hp.le_refl h) rfl)))))
end
end Lf

namespace Lf
open Go Go.Proofs Go.RowKit
structure EEnv (h:Hp):Prop where
 syn:∃te pe,LdIs h ⟨3,0,none⟩ [.iface te pe]
 rng:∃te pe,LdIs h ⟨4,0,none⟩ [.iface te pe]
theorem EEnv.mono {h h':Hp} (e:EEnv h) (hl:h≤h'):EEnv h':=by
 obtain ⟨⟨a,b,e1⟩,⟨c,d,e2⟩⟩:=e
 exact ⟨⟨a,b,zbd hl e1⟩,⟨c,d,zbd hl e2⟩⟩
section
variable {h:Hp}
theorem zhh1 {fn s:ByteArray} {base bits k:Int} {K:Leaf→Hp→Prop} (e:EEnv h) (hs:s.size≤281474976710656) (h12:k=1∨k=2) (hk:∀er,K er h):
  CallT Tryz.prog zfp [.string fn,.string s,.int .i64 base,.int .i64 bits,.iface 122 (.int .i64 k)] zal K h:=by
 intro w hw
 rcases h12 with rfl | rfl
 ·obtain ⟨te,pe,hl⟩:=e.rng
  refine (Tryz.strconv_toError_range fn s base bits (.iface te pe) w hs (zmb hw (hl 0 _ rfl)) (.inr ⟨te,pe,rfl⟩)).mono ?_
  rintro e w' ⟨N,rfl,_,_,hb⟩
  exact ⟨_,h,rfl,⟨⟨.iface 125 (.pointer (some ⟨N,0,none⟩)),rfl⟩,rfl,hk _⟩,⟨fun i o e=>by rw [hb.block i (hw.lt e)];exact hw i o e,hb.size,fun i hi hn=>⟨hb.block i hi,hn⟩,hb.os,hb.tape,hb.output⟩⟩
 ·obtain ⟨te,pe,hl⟩:=e.syn
  refine (Tryz.strconv_toError_syntax fn s base bits (.iface te pe) w hs (zmb hw (hl 0 _ rfl)) (.inr ⟨te,pe,rfl⟩)).mono ?_
  rintro e w' ⟨N,rfl,_,_,hb⟩
  exact ⟨_,h,rfl,⟨⟨.iface 125 (.pointer (some ⟨N,0,none⟩)),rfl⟩,rfl,hk _⟩,⟨fun i o e=>by rw [hb.block i (hw.lt e)];exact hw i o e,hb.size,fun i hi hn=>⟨hb.block i hi,hn⟩,hb.os,hb.tape,hb.output⟩⟩
end
end Lf

namespace Lf
open Go Go.Proofs
section
variable {h:Hp}
theorem zfm1 {s:ByteArray} {Q:Nat→Leaf→Hp→Prop} (e:AEnv h) (ee:EEnv h) (hs:s.size≤281474976710656) (hq:∀(f:Nat) (er:Leaf) h',h≤h'→Q f er h'):zch Tryz.prog s (64:Int) Q h:=by
 unfold zch
 have fin:∀(f:Nat) (er:Leaf) (h1:Hp),h≤h1→ErK er→((isIfV er.v)=true∧(if (!(zip er.v))=true then
   CallT Tryz.prog zfp [(.string ⟨#[80,97,114,115,101,70,108,111,97,116]⟩),(.string s),(.int .i64 (0:Int)),(.int .i64 (64:Int)),er.v] zal (fun r2 h2=>EncW zal r2.v fun e=>Q f e h2) h1
   else EncW zal .nilIface fun e=>Q f e h1)):=by
  rintro f er h1 hl (he | ⟨k,hk,he⟩)
  ·rw [he]
   exact ⟨rfl,iteF (by decide) (encN (hq _ _ _ hl))⟩
  ·rw [he]
   exact ⟨rfl,iteT rfl (zhh1 (ee.mono hl) hs hk fun er=>encL (hq _ _ _ hl))⟩
 refine zdq ?_
 unfold zcs
 refine zce ?_
 unfold zbq
 refine iteF (by decide) (zfl (zsr1 e (by omega) fun f n er h1 hl he=>encL ?_))
 exact iteB (fun _=>encE (fin _ _ _ hl (ztn (.inr rfl)))) fun _=>encL (fin _ _ _ hl he)
theorem zfn1 {s:ByteArray} {f:Nat} {Q:Nat→Leaf→Hp→Prop} (ha:∀ {Q':Nat→Int→Leaf→Hp→Prop},(∀(er:Leaf) h',h≤h'→er.v=.nilIface→Q' f (s.size:Int) er h')→zam Tryz.prog s Q' h)
  (hk:∀(er:Leaf) h',h≤h'→Q f er h'):zch Tryz.prog s (64:Int) Q h:=by
 unfold zch
 refine zdq ?_
 unfold zcs
 refine zce ?_
 unfold zbq
 refine iteF (by decide) (zfl (ha fun er h1 hl he=>encL (iteF (fun hh=>bne_iff_ne.1 hh rfl) (encL ?_))))
 dsimp only
 rw [he]
 exact ⟨rfl,iteF (by decide) (encN (hk _ _ hl))⟩
def TxtAt (h:Hp) (b:Nat) (s:ByteArray):Prop:=∀i,i<s.size→hcell h ⟨b,i,none⟩=some (.int .u8 (((UInt8.toNat (List.getD s.data.toList i 0)):Nat):Int))
theorem zxi1 {s:ByteArray} {b:Nat} {t:_} {m:_} {zs:List Value}:TxtAt (h.set b (.cells (zjl s++zs).toArray t m)) b s:=fun i hi=>by
 have hl:s.data.toList.length=s.size:=by rw [Array.length_toList];rfl
 unfold hcell
 rw [zmh]
 simp [zjl,List.getElem?_append_left,hl,hi,List.getD]
theorem zqw1 {s:ByteArray} {b:Nat} {i:Int} {K:Int→Prop} (r:TxtAt h b s) (h0:0≤i) (h1:i<(s.size:Int)) (hk:K (((UInt8.toNat (List.getD s.data.toList (Int.toNat i) 0)):Nat):Int)):
  InB (some ⟨b,0,none⟩) s.size i∧LdW none (shInt .u8) h (sat (some ⟨b,0,none⟩) 1 i) K:=by
 refine ⟨⟨by simp,h0,h1⟩,ld_c (sh:=shInt .u8) _ (zsl ?_) hk⟩
 unfold sat
 rw [Option.getD_some,zak,Nat.zero_add,Nat.mul_one]
 exact r i.toNat (by omega)
theorem zji1 {s:ByteArray} {Q:Int→Leaf→Hp→Prop} (hs:s.size<4611686018427387904) (hq:∀(n:Int) (er:Leaf) h',h≤h'→U64 n→ErK er→Q n er h'):zby Tryz.prog s (16:Int) (64:Int) Q h:=by
 unfold zby
 have z:U64 0:=⟨0,rfl,by decide⟩
 refine iteB (fun _=>encE (hq _ _ h (Hp.le_refl h) z (ztn (.inr rfl)))) fun _=> ?_
 refine JoinW2.direct (letW (iteT (by decide) (JoinW1.direct (iteF (by decide) (letW (iteF (by decide) (JoinW1.direct (iteF (by decide) (iteT (by decide) ⟨by decide,?_⟩)))))))))
 intro c b t hc hb
 have hle:=znn (o:=.cells (zjl s++zbs [.int .u8 0] (c-s.size)).toArray t (c,c+1)) hb
 have tx:TxtAt (h.set b (.cells (zjl s++zbs [.int .u8 0] (c-s.size)).toArray t (c,c+1))) b s:=zxi1
 generalize h.set b (.cells (zjl s++zbs [.int .u8 0] (c-s.size)).toArray t (c,c+1))=H at*
 refine LoopW3.intro (fun us n i k=>k=H∧us=false∧U64 n∧0≤i) (fun _ _ i _=>(s.size-i).toNat) ⟨rfl,rfl,z,by decide⟩ ?_
 rintro _ n i H ⟨rfl,rfl,hn,i0⟩
 refine iteB (fun hi=> ?_) fun _=>effF rfl true (letW (iteF (by decide) (encN (hq _ _ _ hle hn zzx))))
 have hi:i<(s.size:Int):=of_decide_eq_true hi
 refine JoinW2.intro (fun us n k=>k=H∧us=false∧U64 n) (zqw1 tx i0 hi ?_) ?_
 ·generalize (((UInt8.toNat (List.getD s.data.toList (Int.toNat i) 0)):Nat):Int)=x
  refine JoinW2.intro (fun us _ k=>k=H∧us=false) (letW (iteF ?_ (letW (iteB (fun _=>⟨rfl,rfl⟩) fun _=>lowC fun r1=>lowE fun r2=>letW (iteB (fun _=>lowC fun r3=>⟨rfl,rfl⟩) fun _=>encE (hq _ _ _ hle z (ztn (.inr rfl)))))))) ?_
  ·rw [Bool.and_eq_true]
   rintro ⟨_,e⟩
   exact absurd e (by decide)
  rintro _ d k ⟨rfl,rfl⟩
  exact iteB (fun _=>encE (hq _ _ _ hle z (ztn (.inr rfl)))) fun _=>iteB (fun _=>encE (hq _ _ _ hle (zqs _) (ztn (.inl rfl)))) fun _=>letW (iteB (fun _=>encE (hq _ _ _ hle (zqs _) (ztn (.inl rfl)))) fun _=>⟨rfl,rfl,zqs _⟩)
 rintro _ n k ⟨rfl,rfl,hn⟩
 rw [zac (n:=i+1) (by omega) (by omega)]
 exact ⟨⟨rfl,rfl,hn,by omega⟩,by omega⟩
theorem hexF :∀d,d<16→hexD d<256∧((hexD d<58→48≤hexD d∧IntKind.wrap .u8 ((hexD d:Int)-48)=(d:Int))∧(¬hexD d<58→bitsI .or .u8 (hexD d:Int) 32=(hexD d:Int)∧97≤hexD d∧hexD d≤122∧IntKind.wrap .u8 (IntKind.wrap .u8 ((hexD d:Int)-97)+10)=(d:Int))):=by decide
theorem zjj1 {w:Nat} {Q:Int→Leaf→Hp→Prop} (hw:w<18446744073709551616) (hq:∀(er:Leaf) h',h≤h'→er.v=.nilIface→Q (w:Int) er h'):zby Tryz.prog (strN (hexL w)) (16:Int) (64:Int) Q h:=by
 unfold zby
 have hlen:=zoj w
 have hat:=fun {i:Nat} (hi:i<16)=>zbu1 (n:=w) hi
 have hsz:(strN (hexL w)).size=16:=by rw [zao];exact hlen
 have hch:∀ {i:Nat},i<16→UInt8.toNat (List.getD (strN (hexL w)).data.toList i 0)=hexD (w / 16^(15-i)%16):=fun {i} hi=>zij (hat hi) (hexF _ (Nat.mod_lt _ (by decide))).1
 generalize strN (hexL w)=S at*
 refine iteF (zdc1 fun e=>by rw [e] at hsz;cases hsz) ?_
 refine JoinW2.direct (letW (iteT (by decide) (JoinW1.direct (iteF (by decide) (letW (iteF (by decide) (JoinW1.direct (iteF (by decide) (iteT (by decide) ⟨by decide,?_⟩)))))))))
 intro c b t hc hb
 have hle:=znn (o:=.cells (zjl S++zbs [.int .u8 0] (c-S.size)).toArray t (c,c+1)) hb
 have tx:TxtAt (h.set b (.cells (zjl S++zbs [.int .u8 0] (c-S.size)).toArray t (c,c+1))) b S:=zxi1
 generalize h.set b (.cells (zjl S++zbs [.int .u8 0] (c-S.size)).toArray t (c,c+1))=H at*
 refine LoopW3.intro (fun us n i k=>k=H∧us=false∧∃j:Nat,j≤16∧i=(j:Int)∧n=((w / 16^(16-j):Nat):Int)) (fun _ _ i _=>(16-i).toNat) ⟨rfl,rfl,0,by omega,rfl,by rw [Nat.div_eq_of_lt (by exact hw)];rfl⟩ ?_
 rintro _ _ _ H ⟨rfl,rfl,j,hj,rfl,rfl⟩
 by_cases hj16:j<16
 ·refine iteT (decide_eq_true (by show (j:Int)<(S.size:Int);omega)) ?_
  have hd:w / 16^(15-j)%16<16:=Nat.mod_lt _ (by decide)
  have hstep:w / 16^(15-j)=w / 16^(16-j)*16+w / 16^(15-j)%16:=by
   rw [show 16-j=15-j+1 by omega,Nat.pow_succ,←Nat.div_div_eq_div_mul]
   omega
  have hlt:w / 16^(15-j)<18446744073709551616:=Nat.lt_of_le_of_lt (Nat.div_le_self _ _) hw
  obtain ⟨f0,f1,f2⟩:=hexF _ hd
  have hz:=hch hj16
  generalize hd':w / 16^(15-j)%16=d at*
  generalize hm1:w / 16^(15-j)=m1 at*
  generalize hm:w / 16^(16-j)=m at*
  refine JoinW2.intro (fun us n k=>k=H∧us=false∧n=((m*16+d:Nat):Int)) (zqw1 tx (by omega) (by omega) ?_) ?_
  ·rw [Int.toNat_natCast,hz]
   refine JoinW2.intro (fun us d' k=>k=H∧us=false∧d'=(d:Int)) (letW (iteF ?_ (letW ?_))) ?_
   ·rw [Bool.and_eq_true]
    rintro ⟨_,e⟩
    exact absurd e (by decide)
   ·by_cases h58:hexD d<58
    ·obtain ⟨g1,g2⟩:=f1 h58
     refine iteT ?_ ⟨rfl,rfl,g2⟩
     rw [decide_eq_true (show (48:Int)≤((hexD d:Nat):Int) by omega),decide_eq_true (show ((hexD d:Nat):Int)≤57 by omega)];rfl
    ·obtain ⟨g1,g2,g3,g4⟩:=f2 h58
     refine iteF ?_ (zav (zsm ?_))
     ·rw [Bool.and_eq_true]
      rintro ⟨_,e⟩
      have:((hexD d:Nat):Int)≤57:=of_decide_eq_true e
      omega
     rw [g1,decide_eq_true (show (97:Int)≤(hexD d:Int) by omega)]
     refine effT (zav (zsm ?_))
     rw [g1]
     refine letW (iteT ?_ (zav (zsm ?_)))
     ·rw [decide_eq_true (show (hexD d:Int)≤122 by omega)];rfl
     ·rw [g1]
      exact ⟨rfl,rfl,g4⟩
   rintro _ _ k ⟨rfl,rfl,rfl⟩
   have w16:IntKind.wrap .u8 (16:Int)=16:=by decide
   have w64:IntKind.wrap .u64 (16:Int)=16:=by decide
   have wd:IntKind.wrap .u64 (d:Int)=(d:Int):=by rw [zah];omega
   have wm:IntKind.wrap .u64 ((m:Int)*16)=(m:Int)*16:=by rw [zah];omega
   have wt:IntKind.wrap .u64 ((m:Int)*16+(d:Int))=(m:Int)*16+(d:Int):=by rw [zah];omega
   have wx:IntKind.wrap .u64 ((shlI .u64 (1:Int) (IntKind.wrap .u64 (64:Int)))-(1:Int))=18446744073709551615:=by decide
   rw [w16,w64,wd,wm,wt,wx]
   refine iteF (fun hh=>by have:(d:Int)≥16:=of_decide_eq_true hh;omega) (iteF (fun hh=>by have:(m:Int)≥1152921504606846976:=of_decide_eq_true hh;omega) (letW (iteF (fun hh=> ?_) ⟨rfl,rfl,by omega⟩)))
   rw [Bool.or_eq_true] at hh
   rcases hh with hh | hh
   ·have:(m:Int)*16+(d:Int)<(m:Int)*16:=of_decide_eq_true hh
    omega
   ·have:(m:Int)*16+(d:Int)>18446744073709551615:=of_decide_eq_true hh
    omega
  rintro _ _ k ⟨rfl,rfl,rfl⟩
  rw [zac (n:=(j:Int)+1) (by omega) (by omega)]
  refine ⟨⟨rfl,rfl,j+1,hj16,by omega,?_⟩,by omega⟩
  rw [show 16-(j+1)=15-j by omega,hm1]
  omega
 ·refine iteF (fun hh=>hj16 (by have:(j:Int)<(S.size:Int):=of_decide_eq_true hh;omega)) (effF rfl true (letW (iteF (by decide) (encN ?_))))
  have:j=16:=by omega
  subst this
  rw [Nat.sub_self,Nat.pow_zero,Nat.div_one]
  exact hq _ _ hle rfl
end
end Lf

namespace Lf
open Go Go.Proofs
structure VEnv (h:Hp):Prop where
 pe:PEnv h
 ae:AEnv h
 ee:EEnv h
theorem VEnv.mono {h h':Hp} (e:VEnv h) (hl:h≤h'):VEnv h':=⟨e.pe.mono hl,e.ae.mono hl,e.ee.mono hl⟩
section
variable {h:Hp}
theorem zax2 {f:Nat} {K:Int→Hp→Prop} (hk:K (f:Int) h):SemE Tryz.prog (Extern.MathFloatBits.float64bits #[(.float .f64 f)]) (shInt .u64) K h:=⟨(f:Int),rfl,hk⟩
theorem zfc1 {s p:ByteArray} {Q:ByteArray→Bool→Hp→Prop} (hn:¬(p.size≤s.size∧s.extract 0 p.size=p)→Q s false h) (hy:p.size≤s.size→s.extract 0 p.size=p→Q (s.extract p.size s.size) true h):zid Tryz.prog s p Q h:=by
 unfold zid
 refine zfu ?_
 unfold zdn
 refine zfv ?_
 unfold zdo
 refine ⟨fun hh=>⟨by omega,by have:(s.size:Int)≥(p.size:Int):=of_decide_eq_true hh;omega⟩,letW ?_⟩
 rw [Int.toNat_natCast]
 by_cases hc:p.size≤s.size∧s.extract 0 p.size=p
 ·refine iteF ?_ ⟨⟨by omega,by omega⟩,hy hc.1 hc.2⟩
  rw [decide_eq_true (show (s.size:Int)≥(p.size:Int) by omega),hc.2]
  simp
 ·refine iteT ?_ (hn hc)
  rw [Bool.not_eq_true',Bool.and_eq_false_iff]
  by_cases h1:p.size≤s.size
  ·right
   rw [Bool.eq_false_iff]
   exact zdc1 fun e=>hc ⟨h1,e⟩
  ·left
   exact decide_eq_false (show ¬(s.size:Int)≥(p.size:Int) by omega)
theorem zfo1 {s:ByteArray} {Q:Int→Leaf→Hp→Prop} (ee:EEnv h) (hs:s.size≤281474976710656) (hq:∀(n:Int) (er:Leaf) h',h≤h'→Q n er h'):zft Tryz.prog s (16:Int) (64:Int) Q h:=by
 unfold zft
 refine zhr (zji1 (by omega) fun n er h1 hl _ he=> ?_)
 rcases he with he | ⟨k,hk,he⟩
 ·rw [he]
  exact ⟨rfl,iteF (by decide) (encN (hq _ _ _ hl))⟩
 ·rw [he]
  exact ⟨rfl,iteT rfl (zhh1 (ee.mono hl) hs hk fun er=>encL (hq _ _ _ hl))⟩
theorem zfp1 {w:Nat} {Q:Int→Leaf→Hp→Prop} (hw:w<18446744073709551616) (hq:∀(er:Leaf) h',h≤h'→Q (w:Int) er h'):zft Tryz.prog (strN (hexL w)) (16:Int) (64:Int) Q h:=by
 unfold zft
 refine zhr (zjj1 hw fun er h1 hl he=> ?_)
 rw [he]
 exact ⟨rfl,iteF (by decide) (encN (hq _ _ hl))⟩
theorem zsv1 {w:Nat} {out:List Nat} {Q:Nat→Int→Leaf→Hp→Prop} (e:AEnv h) (hw:w<18446744073709551616) (hr:¬9218868437227405312<w%9223372036854775808) (hi:zcw w out) (hk:∀(er:Leaf) h',h≤h'→er.v=.nilIface→Q w (out.length:Int) er h'):
  zam Tryz.prog (strN out) Q h:=by
 have hsg:w=sgn (negD w)+w%9223372036854775808:=by
  unfold sgn negD
  by_cases c:9223372036854775808≤w
  ·rw [decide_eq_true c,if_pos rfl];omega
  ·rw [decide_eq_false c,if_neg (by decide)];omega
 unfold zcw at hi
 rw [if_neg hr] at hi
 split at hi
 ·rename_i c2
  subst hi
  refine zsu1 (neg:=negD w) fun er h1 hl he=> ?_
  rw [c2] at hsg
  rw [←hsg]
  exact hk er h1 hl he
 ·split at hi
  ·rename_i c3
   subst hi
   refine zob1 (neg:=negD w) e fun er h1 hl he=> ?_
   rw [c3,Nat.add_zero] at hsg
   rw [←hsg]
   exact hk er h1 hl he
  ·refine zss1 e (by omega) (by omega) hi fun er h1 hl he=> ?_
   rw [←hsg]
   exact hk er h1 hl he
theorem zlo1 {w:Nat} {out:List Nat} (hr:¬9218868437227405312<w%9223372036854775808) (hi:zcw w out):∃c,out[0]? =some c∧c<110:=by
 unfold zcw at hi
 rw [if_neg hr] at hi
 split at hi
 ·subst hi
  cases negD w
  ·exact ⟨105,rfl,by decide⟩
  ·exact ⟨45,rfl,by decide⟩
 ·split at hi
  ·subst hi
   cases negD w
   ·exact ⟨48,rfl,by decide⟩
   ·exact ⟨45,rfl,by decide⟩
  ·obtain ⟨c,ds,eneg,xs,v,s,rfl,hc, -⟩:=zrn (by omega) (by omega) hi
   cases negD w
   ·exact ⟨c,rfl,by omega⟩
   ·exact ⟨45,rfl,by decide⟩
end
end Lf

namespace Lf
open Go Go.Proofs
section
variable {h:Hp}
def nanT :ByteArray:=⟨#[110,97,110,58]⟩
theorem zxj1 {t:ByteArray} (hs:nanT.size≤t.size) (he:t.extract 0 nanT.size=nanT):(t.data.toList.getD 0 0).toNat=110:=by
 have h4:4≤t.size:=hs
 have e1:(t.extract 0 nanT.size).data.toList.getD 0 0=110:=by rw [he];rfl
 rw [ByteArray.data_extract] at e1
 have e2:(t.data.extract 0 nanT.size).toList=(t.data.toList.take 4):=by simp [nanT];rfl
 rw [e2] at e1
 have e3:t.data.toList.getD 0 0=110:=by
  rw [←e1]
  cases t.data.toList<;>rfl
 rw [e3]
 rfl
theorem zlp1 {t:ByteArray} {Q:Int→Int→Hp→Prop} (e:VEnv h) (hs:t.size≤281474976710656) (hk:∀h' x er,h≤h'→Said t x er→Q x er h'):zrf Tryz.prog t Q h:=by
 unfold zrf
 by_cases hT:∃w out,w<18446744073709551616∧zcw w out∧t=strN out
 ·obtain ⟨w,out,hw,hi,rfl⟩:=hT
  have fin:∀k,h≤k→CallT Tryz.prog zno [(.int .i64 (IntKind.wrap .i64 (w:Int)))] shStr (fun r2 h3=>
    (if (!((ByteArray.toList r2)==(ByteArray.toList (strN out))))=true then
    Q (0:Int) (4:Int) h3
    else
    Q (IntKind.wrap .i64 (w:Int)) (0:Int) h3)) k:=fun k hl=>
   zkw (zxv (n:=IntKind.wrap .i64 (w:Int)) (w:=w) (zeu1 hw) hw (e.pe.mono hl) fun k' out' l' hi'=>by
    rw [zbt1 hi' hi]
    exact iteF (by simp) (hk _ _ _ (Hp.le_trans hl l') (.inl ⟨w,out,hw,hi,rfl,rfl,rfl⟩)))
  by_cases hr:9218868437227405312<w%9223372036854775808
  ·have ho:out=[110,97,110,58]++hexL w:=by
    have:=hi
    unfold zcw at this
    rw [if_pos hr] at this
    exact this
   have hlen:(strN out).size=20:=by rw [zao,ho,List.length_append,zoj];rfl
   have e4:(strN out).extract 0 4=nanT:=by rw [zfo _ _ _ (by rw [ho,List.length_append,zoj];decide),ho];rfl
   have e5:(strN out).extract 4 (strN out).size=strN (hexL w):=by
    rw [zao,zfo _ _ _ (Nat.le_refl _),List.take_of_length_le (Nat.le_refl _),ho];rfl
   refine zgc (zfc1 (p:=nanT) (fun hn=>absurd ⟨by rw [hlen];decide,e4⟩ hn) fun _ _=> ?_)
   refine JoinW1.intro (fun u k=>h≤k∧u=(w:Int)) (iteT rfl ?_) ?_
   ·rw [show (strN out).extract nanT.size (strN out).size=strN (hexL w) from e5]
    exact znl (zfp1 hw fun er h1 hl=>⟨hl,rfl⟩)
   ·rintro _ k ⟨hl,rfl⟩
    exact fin k hl
  ·obtain ⟨c,hc,c110⟩:=zlo1 hr hi
   refine zgc (zfc1 (p:=nanT) (fun _=> ?_) fun h1 h2=> ?_)
   ·refine JoinW1.intro (fun u k=>h≤k∧u=(w:Int)) (iteF (by decide) ?_) ?_
    ·refine zii (zfn1 (f:=w) (fun {Q'} hq=>zsv1 e.ae hw hr hi fun er h1 hl he=> ?_) fun er h1 hl=>zax2 ⟨hl,rfl⟩)
     have:=hq er h1 hl he
     rw [zao] at this
     exact this
    ·rintro _ k ⟨hl,rfl⟩
     exact fin k hl
   ·have:=zxj1 h1 h2
    rw [zij hc (by omega)] at this
    omega
 ·have hno:∀w out,w<18446744073709551616→zcw w out→t≠strN out:=fun w out hw hi ht=>hT ⟨w,out,hw,hi,ht⟩
  have fin:∀(u:Int) k,h≤k→CallT Tryz.prog zno [(.int .i64 (IntKind.wrap .i64 u))] shStr (fun r2 h3=>
    (if (!((ByteArray.toList r2)==(ByteArray.toList t)))=true then
    Q (0:Int) (4:Int) h3
    else
    Q (IntKind.wrap .i64 u) (0:Int) h3)) k:=fun u k hl=>by
   have hb:0≤IntKind.wrap .u64 (IntKind.wrap .i64 u)∧IntKind.wrap .u64 (IntKind.wrap .i64 u)<18446744073709551616:=by rw [zah];omega
   refine zkw (zxv (n:=IntKind.wrap .i64 u) (w:=(IntKind.wrap .u64 (IntKind.wrap .i64 u)).toNat) (Int.toNat_of_nonneg hb.1).symm (by omega) (e.pe.mono hl) fun k' out' l' hi'=> ?_)
   refine iteT ?_ (hk _ _ _ (Hp.le_trans hl l') (.inr ⟨hno,rfl,rfl⟩))
   rw [Bool.not_eq_true',Bool.eq_false_iff]
   intro hh
   exact hno _ _ (by omega) hi' (zdb1 hh).symm
  refine zgc (zfc1 (p:=nanT) (fun _=> ?_) fun h1 h2=> ?_)
  ·refine JoinW1.intro (fun u k=>h≤k) (iteF (by decide) ?_) fun u k hl=>fin u k hl
   exact zii (zfm1 e.ae e.ee hs fun f er h1 hl=>zax2 hl)
  ·refine JoinW1.intro (fun u k=>h≤k) (iteT rfl ?_) fun u k hl=>fin u k hl
   exact znl (zfo1 e.ee (by rw [ByteArray.size_extract];omega) fun n er h1 hl=>hl)
end
end Lf

namespace Lf
open Go Go.Proofs
theorem zlq1 {x:Nat}:∀ {a b c d:List Nat},x∉a→x∉c→a++x::b=c++x::d→a=c∧b=d
 | [],b,[],d,_,_,h=>by
  rw [List.nil_append,List.nil_append] at h
  exact ⟨rfl,(List.cons.inj h).2⟩
 | [],b,y::c,d,_,hc,h=>by
  rw [List.nil_append,List.cons_append] at h
  exact absurd (List.mem_cons.2 (.inl (List.cons.inj h).1)) hc
 | y::a,b,[],d,ha,_,h=>by
  rw [List.nil_append,List.cons_append] at h
  exact absurd (List.mem_cons.2 (.inl (List.cons.inj h).1.symm)) ha
 | y::a,b,z::c,d,ha,hc,h=>by
  rw [List.cons_append,List.cons_append] at h
  obtain ⟨e1,e2⟩:=List.cons.inj h
  obtain ⟨e3,e4⟩:=zlq1 (fun hm=>ha (List.mem_cons.2 (.inr hm))) (fun hm=>hc (List.mem_cons.2 (.inr hm))) e2
  exact ⟨by rw [e1,e3],e4⟩
theorem zay2 {c:Nat} {ds:List Nat} (hc:49≤c∧c<58) (hd:Digs ds):101∉manL c ds:=by
 unfold manL
 intro hm
 rcases List.mem_cons.1 hm with e | hm
 ·omega
 ·split at hm
  ·cases hm
  ·rcases List.mem_cons.1 hm with e | hm
   ·omega
   ·have:=hd _ hm
    omega
theorem zcz2 {n1 n2 e1 e2:Bool} {c1 c2:Nat} {d1 d2 x1 x2:List Nat} (hc1:49≤c1∧c1<58) (hc2:49≤c2∧c2<58) (hd1:Digs d1) (hd2:Digs d2) (hx1:Digs x1) (hx2:Digs x2) (h1:1≤x1.length) (h2:1≤x2.length)
  (h:fltL n1 c1 d1 e1 x1=fltL n2 c2 d2 e2 x2):n1=n2∧c1=c2∧d1=d2∧e1=e2∧x1=x2:=by
 have hn:n1=n2∧manL c1 d1++101::((if e1 then [45] else [])++x1)=manL c2 d2++101::((if e2 then [45] else [])++x2):=by
  unfold fltL at h
  cases n1<;>cases n2
  ·exact ⟨rfl,h⟩
  ·have:c1=45:=(List.cons.inj h).1
   omega
  ·have:45=c2:=(List.cons.inj h).1
   omega
  ·exact ⟨rfl,(List.cons.inj h).2⟩
 obtain ⟨en,h⟩:=hn
 obtain ⟨hm,hx⟩:=zlq1 (zay2 hc1 hd1) (zay2 hc2 hd2) h
 unfold manL at hm
 obtain ⟨ec,hm⟩:=List.cons.inj hm
 have ed:d1=d2:=by
  split at hm
  ·rename_i e
   split at hm
   ·rename_i e';rw [e,e']
   ·cases hm
  ·split at hm
   ·cases hm
   ·exact (List.cons.inj hm).2
 have ex:e1=e2∧x1=x2:=by
  cases x1 with
  | nil=>exact absurd h1 (by decide)
  | cons y1 x1=>
   cases x2 with
   | nil=>exact absurd h2 (by decide)
   | cons y2 x2=>
    have a1:=hx1 y1 (List.mem_cons.2 (.inl rfl))
    have a2:=hx2 y2 (List.mem_cons.2 (.inl rfl))
    cases e1<;>cases e2
    ·exact ⟨rfl,hx⟩
    ·have:y1=45:=(List.cons.inj hx).1
     omega
    ·have:45=y2:=(List.cons.inj hx).1
     omega
    ·exact ⟨rfl,(List.cons.inj hx).2⟩
 exact ⟨en,ec,ed,ex.1,ex.2⟩
theorem zzw1 :∀a,a<16→∀b,b<16→hexD a=hexD b→a=b:=by decide
theorem zda2 {a b:Nat} (ha:a<18446744073709551616) (hb:b<18446744073709551616) (h:hexL a=hexL b):a=b:=by
 have key:∀j,j≤16→a / 16^(16-j)=b / 16^(16-j):=by
  intro j
  induction j with
  | zero=>intro _;rw [Nat.div_eq_of_lt (by exact ha),Nat.div_eq_of_lt (by exact hb)]
  | succ j ih=>
   intro hj
   have ih:=ih (by omega)
   have e:=zbu1 (n:=a) (i:=j) (by omega)
   rw [h,zbu1 (by omega)] at e
   have hd:=zzw1 _ (Nat.mod_lt _ (by decide)) _ (Nat.mod_lt _ (by decide)) (Option.some.inj e)
   have sp:∀n:Nat,n / 16^(15-j)=n / 16^(16-j)*16+n / 16^(15-j)%16:=fun n=>by
    rw [show 16-j=15-j+1 by omega,Nat.pow_succ,←Nat.div_div_eq_div_mul]
    omega
   rw [show 16-(j+1)=15-j by omega,sp a,sp b,ih,hd]
 have:=key 16 (Nat.le_refl _)
 rw [Nat.sub_self,Nat.pow_zero,Nat.div_one,Nat.div_one] at this
 exact this
theorem zaz2 (w:Nat) (hw:w<18446744073709551616):w=sgn (negD w)+w%9223372036854775808:=by
 unfold sgn negD
 by_cases c:9223372036854775808≤w
 ·rw [decide_eq_true c,if_pos rfl];omega
 ·rw [decide_eq_false c,if_neg (by decide)];omega
def KindT (w:Nat) (out:List Nat):Prop:=
 (w%9223372036854775808=9218868437227405312∧out=infL (negD w))∨(w%9223372036854775808=0∧out=zeroL (negD w))∨
  (0<w%9223372036854775808∧w%9223372036854775808<9218868437227405312∧TextF (w%9223372036854775808) (negD w) out)
theorem zxk1 {w:Nat} {out:List Nat} (hr:¬9218868437227405312<w%9223372036854775808) (hi:zcw w out):KindT w out:=by
 unfold zcw at hi
 rw [if_neg hr] at hi
 split at hi
 ·rename_i c;exact .inl ⟨c,hi⟩
 ·split at hi
  ·rename_i c;exact .inr (.inl ⟨c,hi⟩)
  ·exact .inr (.inr ⟨by omega,by omega,hi⟩)
theorem zzx1 {r:Nat} {neg:Bool} {out:List Nat} (h1:0<r) (h2:r<9218868437227405312) (ht:TextF r neg out):∃c l,out=(if neg then [45] else [])++c::l∧49≤c∧c<58:=by
 obtain ⟨c,ds,eneg,xs,v,s,rfl,hc, -⟩:=zrn h1 h2 ht
 exact ⟨c,_,rfl,hc⟩
theorem zzy1 {n1 n2:Bool} {a b:Nat} {l m:List Nat} (ha:a≠45) (hb:b≠45) (h:(if n1 then [45] else [])++a::l=(if n2 then [45] else [])++b::m):n1=n2∧a=b∧l=m:=by
 cases n1<;>cases n2
 ·obtain ⟨e1,e2⟩:=List.cons.inj h
  exact ⟨rfl,e1,e2⟩
 ·exact absurd (List.cons.inj h).1 ha
 ·exact absurd (List.cons.inj h).1.symm hb
 ·obtain ⟨e1,e2⟩:=List.cons.inj (List.cons.inj h).2
  exact ⟨rfl,e1,e2⟩
theorem zlr1 {w:Nat} {out:List Nat} (h:KindT w out):∃c l,out=(if negD w then [45] else [])++c::l∧c≠45∧((c=105∧w%9223372036854775808=9218868437227405312)∨(c=48∧w%9223372036854775808=0)∨(49≤c∧c<58∧0<w%9223372036854775808∧w%9223372036854775808<9218868437227405312∧TextF (w%9223372036854775808) (negD w) out)):=by
 rcases h with ⟨e,rfl⟩ | ⟨e,rfl⟩ | ⟨h1,h2,ht⟩
 ·exact ⟨105,_,rfl,by decide,.inl ⟨rfl,e⟩⟩
 ·exact ⟨48,_,rfl,by decide,.inr (.inl ⟨rfl,e⟩)⟩
 ·obtain ⟨c,l,e,c1,c2⟩:=zzx1 h1 h2 ht
  exact ⟨c,l,e,by omega,.inr (.inr ⟨c1,c2,h1,h2,ht⟩)⟩
theorem zzz1 {a b:Nat} {out:List Nat} (ha:a<18446744073709551616) (hb:b<18446744073709551616) (h1:zcw a out) (h2:zcw b out):a=b:=by
 have hd:∀ {w:Nat},zcw w out→(out[0]? =some 110∧out=[110,97,110,58]++hexL w)∨(¬9218868437227405312<w%9223372036854775808∧∃c,out[0]? =some c∧c<110):=fun {w} hi=>by
  by_cases hr:9218868437227405312<w%9223372036854775808
  ·have:=hi
   unfold zcw at this
   rw [if_pos hr] at this
   exact .inl ⟨by rw [this];rfl,this⟩
  ·exact .inr ⟨hr,zlo1 hr hi⟩
 rcases hd h1 with ⟨f1,e1⟩ | ⟨r1,c1,f1,g1⟩<;>rcases hd h2 with ⟨f2,e2⟩ | ⟨r2,c2,f2,g2⟩
 ·rw [e1] at e2
  exact zda2 ha hb (List.append_cancel_left e2)
 ·rw [f1] at f2
  have:=Option.some.inj f2
  omega
 ·rw [f1] at f2
  have:=Option.some.inj f2
  omega
 ·obtain ⟨x,l,ex,x45,kx⟩:=zlr1 (zxk1 r1 h1)
  obtain ⟨y,m,ey,y45,ky⟩:=zlr1 (zxk1 r2 h2)
  have eo:=ex.symm.trans ey
  obtain ⟨en,exy, -⟩:=zzy1 x45 y45 eo
  rw [zaz2 a ha,zaz2 b hb,en]
  congr 1
  rcases kx with ⟨p,q⟩ | ⟨p,q⟩ | ⟨p,p',q1,q2,q⟩<;>rcases ky with ⟨p2,u⟩ | ⟨p2,u⟩ | ⟨p2,p2',u1,u2,u⟩
  ·rw [q,u]
  ·omega
  ·omega
  ·omega
  ·rw [q,u]
  ·omega
  ·omega
  ·omega
  ·obtain ⟨c,ds,eneg,xs,v,s,e1,hc,hds, -,hxs,x1, -,ev,es, -, -, -, -,he⟩:=zrn q1 q2 q
   obtain ⟨c',ds',eneg',xs',v',s',e1',hc',hds', -,hxs',x1', -,ev',es', -, -, -, -,he'⟩:=zrn u1 u2 u
   obtain ⟨-,rfl,rfl,rfl,rfl⟩:=zcz2 hc hc' hds hds' hxs hxs' x1 x1' (e1.symm.trans e1')
   subst ev
   subst es
   subst ev'
   subst es'
   have i1:=zzv q1 q2
   have i2:=zzv u1 u2
   rw [←he] at i1
   rw [←he'] at i2
   exact ziy1 q1 u1 i1 i2
theorem zls1 {x:List Nat} (h:∀z∈x,z<128):(strN x).data.toList.map UInt8.toNat=x:=by
 rw [zhv,List.map_map]
 have:x.map (UInt8.toNat ∘ UInt8.ofNat)=x.map id:=List.map_congr_left fun z hz=>by
  show (UInt8.ofNat z).toNat=z
  rw [UInt8.toNat_ofNat']
  exact Nat.mod_eq_of_lt (by have:=h z hz;omega)
 rw [this,List.map_id]
theorem zaa2 {a b:Nat} {x y:List Nat} (ha:a<18446744073709551616) (hb:b<18446744073709551616) (h1:zcw a x) (h2:zcw b y) (h:strN x=strN y):a=b:=by
 have e1:=zls1 (zyh h1).2
 rw [h,zls1 (zyh h2).2] at e1
 subst e1
 exact zzz1 ha hb h1 h2
theorem zab2 {t:ByteArray} {x x' e e':Int} (h:Said t x e) (h':Said t x' e'):x=x'∧e=e':=by
 rcases h with ⟨w,out,hw,hi,ht,rfl,rfl⟩ | ⟨hn,rfl,rfl⟩<;>rcases h' with ⟨w',out',hw',hi',ht',rfl,rfl⟩ | ⟨hn',rfl,rfl⟩
 ·rw [zaa2 hw hw' hi hi' (ht.symm.trans ht')]
  exact ⟨rfl,rfl⟩
 ·exact absurd ht (hn' w out hw hi)
 ·exact absurd ht' (hn w' out' hw' hi')
 ·exact ⟨rfl,rfl⟩
end Lf

namespace Lf
open Go Go.Proofs
section
variable {h:Hp}
theorem zdb2 (a:Int) (h0: -9223372036854775808≤a) (h1:a<9223372036854775808):∃w:Nat,w<18446744073709551616∧IntKind.wrap .u64 a=(w:Int)∧IntKind.wrap .i64 (w:Int)=a:=by
 have hb:0≤IntKind.wrap .u64 a∧IntKind.wrap .u64 a<18446744073709551616:=by rw [zah];omega
 refine ⟨(IntKind.wrap .u64 a).toNat,by omega,(Int.toNat_of_nonneg hb.1).symm,?_⟩
 rw [Int.toNat_of_nonneg hb.1,zah]
 unfold IntKind.wrap
 simp only [IntKind.signed,IntKind.bits]
 grind
end
end Lf

namespace Lf
open Go Go.Proofs Go.ChangeShapes Go.WideShapes Go.ChangeAt Go.RowKit
abbrev fltLaid :List (String×DataW Unit):=YtgmfbapkfjemnaaGreatDoor.Rows.fltReturnsUptoRow.laid
theorem star : "*" ++ "errors.errorString" = "*errors.errorString" :=by decide
theorem zdx2 (u:TypeId) (h:Tryz.prog.typeName? 3 u=some "*errors.errorString"):u=202:=
 typeName_ptr_named (nm:= "errors.errorString") (by rw [star];kernel_rfl) (by kernel_rfl) (by decide) u (by rw [star];exact h)
def dbL :List Int:=[0,1,56,2,57,49,28,3,61,58,42,50,38,29,17,4,62,47,59,36,45,43,51,22,53,39,33,30,24,18,12,5,63,55,48,27,60,41,37,16,46,35,44,21,52,32,23,11,54,26,40,15,34,20,31,10,25,14,19,9,13,8,7,6]
theorem zac2 :∀k,k<61→Go.Pinned.cheatRows[k]? =some (newD k,(fiveL k).map UInt8.ofNat):=by decide+kernel
theorem env_laid {W:World} (h:laidMetH Tryz.prog fltLaid W):VEnv (whole W):=by
 rw [MakeChecks.laidMetH_plain _ _ _ (by kernel_rfl)] at h
 have h1:=h.tail
 have h2:=h1.tail
 have h3:=h2.tail
 have h4:=h3.tail
 have h5:=h4.tail
 have h6:=h5.tail
 have h8:=h6.tail.tail
 have h9:=h8.tail
 have h10:=h9.tail
 have h11:=h10.tail
 have h12:=h11.tail
 have i0:LdIs (whole W) ⟨7,0,none⟩ [.int .u64 52]:=zbg1 (j:=0) rfl h3 (by kernel_rfl) (by kernel_rfl) Tryz.underlying213 rfl rfl (by kernel_rfl) (by kernel_rfl)
 have i1:LdIs (whole W) ⟨7,1,none⟩ [.int .u64 11]:=zbg1 (j:=1) rfl h3 (by kernel_rfl) (by kernel_rfl) Tryz.underlying213 rfl rfl (by kernel_rfl) (by kernel_rfl)
 have i2:LdIs (whole W) ⟨7,2,none⟩ [.int .i64 (-1023)]:=zbg1 (j:=2) rfl h3 (by kernel_rfl) (by kernel_rfl) Tryz.underlying213 rfl rfl (by kernel_rfl) (by kernel_rfl)
 have fe:FEnv (whole W):=by
  refine ⟨?_,?_,?_,i0,?_⟩
  ·exact zrl1 (g:=8) h12 (by kernel_rfl) (by kernel_rfl) Tryz.underlying229 Tryz.underlying228 rfl rfl rfl rfl rfl rfl (by kernel_rfl) (by kernel_rfl) (by kernel_rfl)
  ·have h8':laidMet Tryz.prog (("internal/strconv.uint64pow10",.agg (((List.range 20).map fun k=>((10^k:Nat):Int)).map fun x=>.lit (.int .u64 x)))::_) W:=h8
   have:=zkd1 (g:=5) h8' (by kernel_rfl) (by kernel_rfl) Tryz.underlying182 Tryz.underlying51 (by kernel_rfl) (by kernel_rfl)
   rw [List.map_map] at this
   exact this
  ·exact zut1 (g:=2) h4 (by kernel_rfl) (by kernel_rfl) Tryz.underlying4
  ·have h6':laidMet Tryz.prog (("internal/strconv.float64pow10",.slice (pow10F.map fun x=>.lit (.float .f64 x)) [])::_) W:=h6
   exact zms1 (g:=12) h6' (by kernel_rfl) (by kernel_rfl) Tryz.underlying240 Tryz.underlying48 (by kernel_rfl)
 have tz:LdIs (whole W) ⟨14,15,none⟩ [.int .u8 4]:=by
  have h1':laidMet Tryz.prog (("math/bits.deBruijn64tab",.agg (dbL.map fun x=>.lit (.int .u8 x)))::_) W:=h1
  have:=zkd1 (g:=14) h1' (by kernel_rfl) (by kernel_rfl) Tryz.underlying242 Tryz.underlying5 (by kernel_rfl) (by kernel_rfl)
  intro i v hv
  cases i with
  | zero=>
   cases hv
   have:=this 15 _ rfl
   rw [zak] at this
   rw [zak]
   exact this
  | succ i=>simp at hv
 have err:∀ {n:String} {text:List UInt8} {r:List (String×DataW Unit)} {g:Nat},laidMet Tryz.prog ((n,.iface "*errors.errorString" (.ptr (.agg [.lit (.string text)])))::r) W→Tryz.prog.globalNamed n=some g→(Tryz.prog.globals[g]?).map (·.type)=some 56→∃te pe,LdIs (whole W) ⟨g,0,none⟩ [.iface te pe]:=fun {n text r g} hl hg ht=>by
  obtain ⟨a0,s0,hv0, -, -, -⟩:=laid_sentinel hl hg ht Tryz.underlying56 zdx2 Tryz.underlying202 Tryz.underlying204 rfl rfl Tryz.underlying9 (by kernel_rfl) (by kernel_rfl)
  refine ⟨202,.pointer (some a0),fun i v e=> ?_⟩
  cases i with
  | succ i=>simp at e
  | zero=>
   cases e
   have h0:=World.var?_cell hg hv0 0
   rw [zle,zak]
   simpa using h0
 refine ⟨⟨fe,tz⟩,⟨fe,⟨⟨zpo1 h3 (by kernel_rfl) (by kernel_rfl) Tryz.underlying213 (of_decide_eq_true (by kernel_rfl)),i0,i1,i2,zpo1 h2 (by kernel_rfl) (by kernel_rfl) Tryz.underlying213 (of_decide_eq_true (by kernel_rfl))⟩,?_,?_⟩⟩,⟨err h10 (by kernel_rfl) (by kernel_rfl),err h9 (by kernel_rfl) (by kernel_rfl)⟩⟩
 ·have h11':laidMet Tryz.prog (("internal/strconv.leftcheats",.slice (Go.Pinned.cheatRows.map fun x=>.agg [.lit (.int .i64 x.1),.lit (.string x.2)]) [])::_) W:=h11
  obtain ⟨a,c,e1,e2⟩:=zrn1 (g:=9) h11' (by kernel_rfl) (by kernel_rfl) Tryz.underlying233 Tryz.underlying232 rfl rfl rfl rfl rfl rfl Tryz.underlying3 Tryz.underlying9 (by kernel_rfl) (by kernel_rfl) (by kernel_rfl)
  have hlen:Go.Pinned.cheatRows.length=61:=by decide+kernel
  rw [hlen] at e1
  exact ⟨a,c,e1,fun k hk=>e2 k _ (zac2 k hk)⟩
 ·have h5':laidMet Tryz.prog (("internal/strconv.powtab",.slice (powL.map fun x=>.lit (.int .i64 x)) [])::_) W:=h5
  exact zmt1 (g:=11) h5' (by kernel_rfl) (by kernel_rfl) Tryz.underlying239 Tryz.underlying3 (by kernel_rfl)
theorem own :ownKnob Tryz.prog.godebug=none:=by kernel_rfl
theorem laidOut :laidOutB Tryz.prog=true:=by kernel_rfl
theorem laid_met (os:Os) (args:Array Value):laidMetH Tryz.prog fltLaid ((World.laidAll Tryz.prog os fltLaid).forCall (fun _ _=>0) ⟨#[],args,[]⟩).memory:=by
 rw [MakeChecks.laidMetH_plain _ _ _ (by kernel_rfl)]
 exact laidMet_laidAll args (by kernel_rfl) (by kernel_rfl)
end Lf

namespace Lf
open Go Go.ChangeShapes Go.WideShapes Go.ChangeAt Go.RowKit
theorem strs_in {H:Type} {enc:TypeId×Value→H} {P:Program} {W:World} {base:Nat} {t e:TypeId} {v:Value} {d:DataW H} {ps:List MemPlace} (ht:P.underlying t=some (.slice e)) (he:P.underlying e=some .string) (hc:P.cellsOf e=1) (hv:Value.okWide P W .any base t v)
    (h:DataW.Trod enc P W 0 (fun _=>true) true t v d ps):∃(l:Sl) (ts:List ByteArray),v=l.v∧Rs (whole W) shStr 1 l ts∧l.len≤9223372036854775807∧(ts=[]∨∃sp,d=.slice (ts.map fun s=>.lit (.string s.data.toList)) sp):=by
  obtain ⟨a0,len0,cap0,rfl⟩:=okWide_slice ht hv
  obtain ⟨fuel,hf⟩:=h
  rcases open_strings ht he hc hf with ⟨h0,_⟩ | ⟨a,len,cap,ss,h0,hb,hl,hm,hlen,hd,hcell,hsz⟩
  · simp [Value.cells] at h0
    obtain ⟨rfl,rfl,rfl⟩:=h0
    exact ⟨⟨none,0,0⟩,[],rfl,⟨rfl,(by simp),.inl (by simp)⟩,(by simp),.inl rfl⟩
  · simp [Value.cells] at h0
    obtain ⟨rfl,rfl,rfl⟩:=h0
    rw [if_pos rfl] at hlen
    have hd:=(Prod.mk.inj hd).1
    have hm':cap0≤9223372036854775807:=hm
    refine ⟨⟨some a,len0,cap0⟩,ss.take len0,rfl,⟨by rw [List.length_take];show len0=_;omega,zey (enc:=fun x=>zai (shStr.enc x)) (sz:=1) (fun _=>rfl) _,.inr ⟨a,rfl,fun i w hw=> ?_⟩⟩,by show len0≤_;omega,.inr ⟨_,hd⟩⟩
    have hfl:((ss.take len0).flatMap fun x=>zai (shStr.enc x))=(ss.take len0).map fun x=>Value.string x:=by
      rw [List.flatMap_def]
      show ((ss.take len0).map fun x=> [Value.string x]).flatten=_
      induction ss.take len0 with
      | nil=>rfl
      | cons x r ih=>simp only [List.map_cons,List.flatten_cons,ih];rfl
    rw [hfl,List.getElem?_map,Option.map_eq_some_iff] at hw
    obtain ⟨x,hx,rfl⟩:=hw
    have hi:i<ss.length∧ss[i]? =some x:=by
      rw [List.getElem?_take] at hx
      split at hx
      · exact ⟨(List.getElem?_eq_some_iff.1 hx).1,hx⟩
      · cases hx
    have:=hcell i hi.1
    rw [List.getD_eq_getElem?_getD,hi.2] at this
    exact this
end Lf

namespace Lf
open Go Go.Proofs
section
variable {h:Hp}
theorem fltPrints_ok {l texts:Sl} {xs:List Int} {ts:List ByteArray} {Q:Bool→Hp→Prop} (e:VEnv h) (rl:Rs h (shInt .i64) 1 l xs) (hl:l.len≤9223372036854775807) (hx:∀x∈xs, -9223372036854775808≤x∧x<9223372036854775808)
  (rt:Rs h shStr 1 texts ts) (htl:texts.len≤9223372036854775807) (ht:∀t∈ts,t.size≤281474976710656) (hq:∀h',h≤h'→Q true h'):zgl Tryz.prog l texts Q h:=by
 unfold zgl
 refine LoopW1.intro (fun i k=>h≤k∧0≤i) (fun i _=>(l.len-i).toNat) ⟨Hp.le_refl h,by omega⟩ ?_
 rintro i k ⟨hk,i0⟩
 refine iteB (fun hi=> ?_) fun _=> ?_
 ·have hi:i<(l.len:Int):=of_decide_eq_true hi
  have r:=Rw.mono hk rl
  have e1:=rl.1
  refine Rs.get (sh:=shInt .i64) r (fun _=>rfl) (by decide) i0 (by omega) fun x hx1=>Rs.get (sh:=shInt .i64) r (fun _=>rfl) (by decide) i0 (by omega) fun x1 hx2=> ?_
  obtain rfl:x=x1:=Option.some.inj (hx1.symm.trans hx2)
  obtain ⟨b0,b1⟩:=hx x (List.mem_of_getElem? hx1)
  obtain ⟨w,lw,nw, -⟩:=zdb2 x b0 b1
  refine zkw (zxv nw lw (e.mono hk).pe fun k1 o1 l1 i1=>⟨⟨?_,trivial⟩,zgv (zzw nw lw fun k2 o2 l2 i2=> ?_)⟩)
  ·obtain ⟨_,y,hy,hly⟩:=Rw.read (Rw.mono (Hp.le_trans hk l1) rl) (fun _=>rfl) (by decide) i0 hi
   obtain rfl:y=x:=Option.some.inj (hy.symm.trans hx1)
   exact hly
  ·rw [zbt1 i2 i1]
   refine iteF (by simp) ?_
   rw [zac (n:=i+1) (by omega) (by omega)]
   exact ⟨⟨Hp.le_trans hk (Hp.le_trans l1 l2),by omega⟩,by omega⟩
 ·refine LoopW1.intro (fun i k=>h≤k∧0≤i) (fun i _=>(texts.len-i).toNat) ⟨hk,by omega⟩ ?_
  rintro i k ⟨hk,i0⟩
  refine iteB (fun hi=> ?_) fun _=>zti (zzk1 (e.mono hk).pe.env fun h6 l6=>hq h6 (Hp.le_trans hk l6))
  have hi:i<(texts.len:Int):=of_decide_eq_true hi
  have e1:=rt.1
  refine Rs.get (sh:=shStr) (Rw.mono hk rt) (fun _=>rfl) (by decide) i0 (by omega) fun t ht1=> ?_
  refine ztg (zlp1 (e.mono hk) (ht t (List.mem_of_getElem? ht1)) fun k1 x er l1 sd=> ?_)
  have l01:=Hp.le_trans hk l1
  refine Rs.get (sh:=shStr) (Rw.mono l01 rt) (fun _=>rfl) (by decide) i0 (by omega) fun t2 ht2=> ?_
  obtain rfl:t=t2:=Option.some.inj (ht1.symm.trans ht2)
  refine zth (znt1 fun k2 x2 er2 l2 sd2=>letW (iteF ?_ ?_))
  ·obtain ⟨rfl,rfl⟩:=zab2 sd sd2
   simp
  ·rw [zac (n:=i+1) (by omega) (by omega)]
   exact ⟨⟨Hp.le_trans l01 l2,by omega⟩,by omega⟩
end
end Lf

