/-
  Part 5 of the texts that the claim leans on.
-/
import Derived.Test.YtgmfbapkfjemnaaGreatDoorCards
import Derived.Test.YtgmfbapkfjemnaaGreatDoorTie
import Derived.Lib.ParseIntBCases
import Derived.Shelf.Strings.Search1
import Derived.Shelf.Strings.Count
import Derived.Shelf.LaysC
import Derived.Shelf.Strconv.ParseInt10All
import Derived.Test.YtgmfbapkfjemnaaGreatDoorProg
import Derived.Shelf.Strings.Builder1
import Derived.Shelf.Strings.OnBuilder
import Derived.Shelf.RegionOpenPlain
import Derived.Lib.Strings
import Derived.Lib.Slices
import Derived.Lib.Walk
import Derived.Lib.Builder
import Derived.Lib.AppendStr
import Derived.Lib.UnsafeStr
import Derived.Lib.MakeNoZero
import Derived.WalkKit
import Derived.Laws.Externs
import Derived.Laws.IdiomCopy
import Derived.Laws.BitsLemmas
import Derived.Laws.StructEq
import Derived.ChangeKeysEq
import Derived.Test.YtgmfbapkfjemnaaGreatDoorMgAsmOwn3
namespace Lf
open Go Go.Proofs
theorem zno1 {x k:Nat} (hx:x<18446744073709551616) (hk:k≤60):bitsI .and .u64 (x:Int) (IntKind.wrap .u64 ((shlI .u64 (1:Int) (k:Int))-(1:Int)))=((x%2^k:Nat):Int):=by
 have h2:2^k≤2^60:=Nat.pow_le_pow_right (by decide) hk
 have hp:=Nat.two_pow_pos k
 have e1:shlI .u64 (1:Int) (k:Int)=((2^k:Nat):Int):=by
  have:=shlN (x:=1) (n:=k) (by omega) (by omega)
  rw [Nat.one_mul] at this
  exact this
 have e2:IntKind.wrap .u64 (((2^k:Nat):Int)-1)=((2^k-1:Nat):Int):=by rw [zan];omega
 rw [e1,e2]
 unfold bitsI
 dsimp only
 rw [zsc,BitVec.toNat_and,zkx hx,zkx (by omega),Nat.and_two_pow_sub_one_eq_mod,zan]
 have:=Nat.mod_lt x hp
 omega
theorem zqm {ds:List Nat} {i j c:Nat} (hi:i<ds.length):(ds.set i c).getD j 0=if i=j then c else ds.getD j 0:=by
 rw [List.getD_eq_getElem?_getD,List.getD_eq_getElem?_getD,List.getElem?_set]
 by_cases h:i=j
 ·subst h;rw [if_pos rfl,if_pos hi,if_pos rfl];rfl
 ·rw [if_neg h,if_neg h]
theorem zui {ds:List Nat} {i:Nat} (hi:i≤ds.length):Digs (ds.take i)↔∀q,q<i→48≤ds.getD q 0∧ds.getD q 0<58:=by
 constructor
 ·intro h q hq
  have e:ds.getD q 0=ds[q]'(by omega):=by simp [List.getD,show q<ds.length by omega]
  rw [e]
  exact h _ (List.mem_take_iff_getElem.2 ⟨q,by omega,rfl⟩)
 ·intro h z hz
  obtain ⟨q,hq,rfl⟩:=List.mem_take_iff_getElem.1 hz
  have:=h q (by omega)
  rw [List.getD,List.getElem?_eq_getElem (by omega)] at this
  exact this
theorem digB {z:Nat} (hz:z<10):IntKind.wrap .u8 (IntKind.wrap .u64 ((z:Int)+48))=((48+z:Nat):Int):=by rw [zan,byte8];omega
section
variable {h0 h:Hp} {b:Nat} {ds:List Nat} {dp:Int} {neg tr:Bool}
structure RInv (ds:List Nat) (i N N0 k:Nat):Prop where
 lt:N<10*2^k
 digs:∀q,q<i→48≤ds.getD q 0∧ds.getD q 0<58
 head:(i=0∧N=N0)∨(1≤i∧ds.getD 0 0=48+N0 / 2^k)
theorem RInv.step {ds:List Nat} {i N N0 k:Nat} (r:RInv ds i N N0 k) (hi:i<ds.length) (d:Nat) (hd:d<10):RInv (ds.set i (48+N / 2^k)) (i+1) (N%2^k*10+d) N0 k:=by
 have hp:=Nat.two_pow_pos k
 have hm:=Nat.mod_lt N hp
 have hq:N / 2^k<10:=by rw [Nat.div_lt_iff_lt_mul hp];exact r.lt
 refine ⟨by omega,fun q hq'=> ?_,.inr ⟨by omega,?_⟩⟩
 ·rw [zqm hi]
  split
  ·generalize N / 2^k=z at*
   omega
  ·exact r.digs q (by omega)
 ·rw [zqm hi]
  rcases r.head with ⟨rfl,rfl⟩ | ⟨h1,h2⟩
  ·rw [if_pos rfl]
  ·rw [if_neg (by omega)];exact h2
theorem RInv.rest {ds:List Nat} {i N N0 k:Nat} (r:RInv ds i N N0 k) (hi:1≤i):RInv ds i (N%2^k*10) N0 k:=by
 have hm:=Nat.mod_lt N (Nat.two_pow_pos k)
 refine ⟨by omega,r.digs,?_⟩
 rcases r.head with ⟨rfl,rfl⟩ | h2
 ·omega
 ·exact .inr h2
theorem zfn1 {n k c:Nat} {Q:Hp→Prop} (x:DX h0 h b ds n dp neg tr) (g:GoodD ds n) (hc:ds[0]? =some c) (k1:1≤k) (k2:k≤60) (d0: -1000000000000000≤dp) (d1:dp≤1000000000000000)
  (hk:∀h' ds' (m r:Nat) tr',DX h0 h' b ds' m (dp-((r:Int)-1)) neg tr'→GoodD ds' m→1≤r→r≤900→(4≤k→2≤r)→(k=3→2≤r∨(56≤c∧ds'.getD 0 0=49))→Q h'):zei Tryz.prog (some ⟨b,0,none⟩) (k:Int) Q h:=by
 have h2:2^k≤2^60:=Nat.pow_le_pow_right (by decide) k2
 have hp:=Nat.two_pow_pos k
 have hl:=x.len
 have g1:=g.pos
 have g2:=g.most
 obtain ⟨c',hc',c49,c58⟩:=g.head
 have ecc:c'=c:=Option.some.inj (hc'.symm.trans hc)
 rw [ecc] at c49 c58
 have hdig:=(zui (i:=n) (by omega)).1 g.digs
 have hsh:∀ {m:Nat},shrI .u64 (m:Int) (k:Int)=((m / 2^k:Nat):Int):=fun {m}=>shrN m (by omega)
 have hz:∀ {m:Nat},((((m / 2^k:Nat):Int)==0)=true↔m<2^k):=fun {m}=>by
  rw [beq_iff_eq]
  constructor
  ·intro e
   refine Classical.byContradiction fun hn=> ?_
   have:=Nat.div_pos (Nat.le_of_not_lt hn) hp
   omega
  ·intro e
   rw [Nat.div_eq_of_lt e];rfl
 have hone:numV (ds.take 1)=c-48:=by
  have:=zxh hc
  simpa [numV] using this
 have hpos:∀j,1≤j→j≤n→1≤numV (ds.take j):=fun j j1 j2=>by
  have hh:(ds.take j)[0]? =some c:=by rw [List.getElem?_take,if_pos (by omega)];exact hc
  have:=(zap2 hh c49).1
  have:=Nat.pow_pos (n:=(ds.take j).length-1) (show 0<10 by decide)
  omega
 unfold zei
 refine JoinW2.intro (fun r v m=>m=h∧∃j N:Nat,r=(j:Int)∧v=(N:Int)∧1≤j∧j≤870∧2^k≤N∧N<10*2^k∧(4≤k→2≤j)∧(k=3→2≤j∨(56≤c∧N≤9))) ?_ ?_
 ·refine LoopW2.intro (fun r v m=>m=h∧∃j N:Nat,r=(j:Int)∧v=(N:Int)∧j≤n∧N=numV (ds.take j)∧N<10*2^k) (fun r _ _=>(n-r).toNat) ⟨rfl,0,0,rfl,rfl,by omega,rfl,by omega⟩ ?_
  rintro _ _ h ⟨rfl,j,N,rfl,rfl,j1,eN,hN⟩
  refine ⟨by omega,?_⟩
  rw [hsh]
  refine iteB (fun e=> ?_) fun e=> ?_
  ·have hlt:=hz.1 e
   refine zag (ld_c (sh:=shInt .i64) (n:Int) x.ndAt (iteB (fun hr=> ?_) fun hr=> ?_))
   ·have hr:(j:Int)≥(n:Int):=of_decide_eq_true hr
    have hjn:j=n:=by omega
    have hN1:=hpos j (by omega) j1
    refine iteF (fun hh=>by have:((N:Nat):Int)=0:=beq_iff_eq.1 hh;omega) ?_
    refine LoopW2.intro (fun r v m=>m=h∧∃j1 N1:Nat,r=(j1:Int)∧v=(N1:Int)∧n≤j1∧2^(j1-n)≤N1∧N1<10*2^k∧(n<j1∨N1<2^k)) (fun _ v _=>(18446744073709551616-v).toNat) ⟨rfl,j,N,rfl,rfl,by omega,by rw [hjn,Nat.sub_self];omega,hN,.inr hlt⟩ ?_
    rintro _ _ h ⟨rfl,j2,N2,rfl,rfl,b1,b2,b3,b4⟩
    have hj2:j2-n<64:=by
     refine Classical.byContradiction fun hn=> ?_
     have:=Nat.pow_le_pow_right (n:=2) (i:=64) (j:=j2-n) (by decide) (by omega)
     omega
    refine ⟨by omega,?_⟩
    rw [hsh]
    refine iteB (fun e=> ?_) fun e=> ?_
    ·have hlt2:=hz.1 e
     have hN2:1≤N2:=Nat.le_trans (Nat.two_pow_pos _) b2
     rw [zae (by omega) (by omega),show IntKind.wrap .u64 ((N2:Int)*10)=((N2*10:Nat):Int) by rw [zan];omega]
     refine ⟨⟨rfl,j2+1,N2*10,rfl,rfl,by omega,?_,by omega,.inl (by omega)⟩,by omega⟩
     rw [show j2+1-n=j2-n+1 by omega,Nat.pow_succ]
     omega
    ·have hge:¬N2<2^k:=fun c=>e (hz.2 c)
     exact ⟨rfl,j2,N2,rfl,rfl,by omega,by omega,by omega,b3,fun _=>by omega,fun _=>.inl (by omega)⟩
   ·have hr:¬(j:Int)≥(n:Int):=fun e=>hr (decide_eq_true e)
    have hdj:=hdig j (by omega)
    have hnx:numV (ds.take (j+1))=10*numV (ds.take j)+(ds.getD j 0-48):=zxh (by simp [List.getD,show j<ds.length by omega])
    refine zag ⟨⟨by omega,by omega⟩,?_⟩
    rw [Int.toNat_natCast,decAt]
    refine ld_c (sh:=shInt .u8) ((ds.getD j 0:Nat):Int) (x.digit (by omega)) ?_
    rw [zae (by omega) (by omega)]
    have ev:IntKind.wrap .u64 ((IntKind.wrap .u64 ((IntKind.wrap .u64 ((N:Int)*(10:Int)))+(IntKind.wrap .u64 ((ds.getD j 0:Nat):Int))))-(48:Int))=((10*N+(ds.getD j 0-48):Nat):Int):=by
     rw [zan,zan,zan,zan];omega
    rw [ev]
    exact ⟨⟨rfl,j+1,_,rfl,rfl,by omega,by rw [hnx,eN],by omega⟩,by omega⟩
  ·have hge:¬N<2^k:=fun c=>e (hz.2 c)
   have hj0:1≤j:=by
    refine Nat.pos_of_ne_zero fun e=>hge ?_
    subst e
    rw [eN];exact hp
   have hj1:j=1→N=c-48:=fun e=>by subst e;rw [eN];exact hone
   refine ⟨rfl,j,N,rfl,rfl,hj0,by omega,by omega,hN,fun hk4=> ?_,fun hk3=> ?_⟩
   ·refine Classical.byContradiction fun hn=>hge ?_
    have:=hj1 (by omega)
    have:=Nat.pow_le_pow_right (n:=2) (i:=4) (j:=k) (by decide) hk4
    omega
   ·by_cases hj:j=1
    ·right
     have:=hj1 hj
     subst hk3
     omega
    ·left;omega
 rintro _ _ h ⟨rfl,r,N0,rfl,rfl,r1,r2,N1,N2,rk4,rk3⟩
 refine zag (ld_c (sh:=shInt .i64) dp x.dpAt (zag ?_))
 rw [zae (n:=(r:Int)-1) (by omega) (by omega),zae (by omega) (by omega)]
 refine x.putDp fun m1 x1=>⟨by omega,?_⟩
 have hq0:1≤N0 / 2^k∧N0 / 2^k<10:=⟨Nat.div_pos N1 hp,by rw [Nat.div_lt_iff_lt_mul hp];exact N2⟩
 have h49:k=3→N0≤9→48+N0 / 2^k=49:=fun e1 e2=>by
  subst e1
  omega
 refine LoopW3.intro (fun r1 w v m=>∃(j i N:Nat) (ds1:List Nat),r1=(j:Int)∧w=(i:Int)∧v=(N:Int)∧i<j∧(j≤n∨i=0)∧DX h0 m b ds1 n (dp-((r:Int)-1)) neg tr∧RInv ds1 i N N0 k∧∀q,j≤q→q<n→ds1.getD q 0=ds.getD q 0) (fun r1 _ _ _=>(n-r1).toNat)
  ⟨r,0,N0,ds,rfl,rfl,rfl,by omega,.inr rfl,x1,⟨N2,fun q hq=>by omega,.inl ⟨rfl,rfl⟩⟩,fun _ _ _=>rfl⟩ ?_
 rintro _ _ _ m ⟨j,i,N,ds1,rfl,rfl,rfl,hij,hjn,x2,rI,hst⟩
 have hl1:=x2.len
 have hNlt:=rI.lt
 refine zag (ld_c (sh:=shInt .i64) (n:Int) x2.ndAt (iteB (fun hr=> ?_) fun hr=> ?_))
 ·have hr:(j:Int)<(n:Int):=of_decide_eq_true hr
  have hdj:=hdig j (by omega)
  refine zag ⟨⟨by omega,by omega⟩,?_⟩
  rw [Int.toNat_natCast,decAt]
  refine ld_c (sh:=shInt .u8) ((ds1.getD j 0:Nat):Int) (x2.digit (by omega)) ⟨by omega,zag ⟨⟨by omega,by omega⟩,?_⟩⟩
  rw [hst j (by omega) (by omega),Int.toNat_natCast,decAt,hsh,zno1 (by omega) k2]
  have hqd:N / 2^k<10:=by rw [Nat.div_lt_iff_lt_mul hp];exact hNlt
  have hmd:=Nat.mod_lt N hp
  refine x2.putD (c:=48+N / 2^k) (by omega) (digB hqd) fun m3 x3=> ?_
  have ev:IntKind.wrap .u64 ((IntKind.wrap .u64 ((IntKind.wrap .u64 (((N%2^k:Nat):Int)*(10:Int)))+(IntKind.wrap .u64 ((ds.getD j 0:Nat):Int))))-(48:Int))=((N%2^k*10+(ds.getD j 0-48):Nat):Int):=by
   rw [zan,zan,zan,zan];omega
  rw [ev,zae (n:=(j:Int)+1) (by omega) (by omega),zae (n:=(i:Int)+1) (by omega) (by omega)]
  refine ⟨⟨j+1,i+1,_,_,rfl,rfl,rfl,by omega,.inl (by omega),x3,rI.step (by omega) _ (by omega),fun q q1 q2=> ?_⟩,by omega⟩
  rw [zqm (by omega),if_neg (by omega)]
  exact hst q (by omega) q2
 ·have hr:¬(j:Int)<(n:Int):=fun e=>hr (decide_eq_true e)
  refine LoopW2.intro (fun w v m=>∃(i N:Nat) (ds1:List Nat) (tr1:Bool),w=(i:Int)∧v=(N:Int)∧i≤800∧DX h0 m b ds1 n (dp-((r:Int)-1)) neg tr1∧RInv ds1 i N N0 k) (fun _ v _=>restN v.toNat)
   ⟨i,N,ds1,tr,rfl,rfl,by omega,x2,rI⟩ ?_
  clear rI x2 hst hjn hij hl1 hNlt hr ds1 m N i
  rintro _ _ m ⟨i,N,ds1,tr1,rfl,rfl,hi,x2,rI⟩
  have hl1:=x2.len
  have hNlt:=rI.lt
  have hqd:N / 2^k<10:=by rw [Nat.div_lt_iff_lt_mul hp];exact hNlt
  refine iteB (fun hn=>⟨by omega,?_⟩) fun hn=> ?_
  ·have hn:(N:Int)>0:=of_decide_eq_true hn
   have hmd:=Nat.mod_lt N hp
   have hrest:=zaq2 (n:=N) k2 (by omega)
   have ev:IntKind.wrap .u64 (((N%2^k:Nat):Int)*(10:Int))=((N%2^k*10:Nat):Int):=by rw [zan];omega
   rw [hsh,zno1 (by omega) k2,ev]
   refine JoinW1.intro (fun w m=>∃(i:Nat) (ds1:List Nat) (tr1:Bool),w=(i:Int)∧i≤800∧DX h0 m b ds1 n (dp-((r:Int)-1)) neg tr1∧RInv ds1 i (N%2^k*10) N0 k) ?_ ?_
   ·generalize hdw:decide ((i:Int)<800)=dw
    cases dw with
    | true=>
     have hw:(i:Int)<800:=of_decide_eq_true hdw
     rw [if_pos rfl]
     refine zag ⟨⟨by omega,by omega⟩,?_⟩
     rw [Int.toNat_natCast,decAt]
     refine x2.putD (c:=48+N / 2^k) (by omega) (digB hqd) fun m3 x3=> ?_
     rw [zae (by omega) (by omega)]
     exact ⟨i+1,_,tr1,rfl,by omega,x3,rI.step (by omega) 0 (by decide)⟩
    | false=>
     have hw:¬(i:Int)<800:=of_decide_eq_false hdw
     rw [if_neg (by decide)]
     refine iteB (fun _=>zag (x2.putTr fun m3 x3=>⟨i,ds1,true,rfl,hi,x3,rI.rest (by omega)⟩)) fun _=>⟨i,ds1,tr1,rfl,hi,x2,rI.rest (by omega)⟩
   rintro _ m3 ⟨i3,ds3,tr3,rfl,hi3,x3,rI3⟩
   exact ⟨⟨i3,_,ds3,tr3,rfl,rfl,hi3,x3,rI3⟩,by rw [Int.toNat_natCast,Int.toNat_natCast];exact hrest⟩
  ·have hn:¬(N:Int)>0:=fun e=>hn (decide_eq_true e)
   have hhead:1≤i∧ds1.getD 0 0=48+N0 / 2^k:=by
    rcases rI.head with ⟨e1,e2⟩ | e
    ·omega
    ·exact e
   refine zag (x2.putNd fun m3 x3=> ?_)
   have g3:GoodD ds1 i:=⟨hhead.1,hi,(zui (by omega)).2 rI.digs,48+N0 / 2^k,by
    have:=hhead.2
    rw [List.getD,List.getElem?_eq_getElem (show 0<ds1.length by omega)] at this
    rw [List.getElem?_eq_getElem (show 0<ds1.length by omega)]
    exact congrArg some this,by omega,by omega⟩
   refine zjr (zuh1 x3 g3 fun m4 q x4 g4=>hk m4 ds1 q r tr1 x4 g4 r1 (by omega) rk4 fun e=> ?_)
   rcases rk3 e with e3 | e3
   ·exact .inl e3
   ·exact .inr ⟨e3.1,hhead.2.trans (h49 e e3.2)⟩
end
end Lf

namespace Lf
open Go Go.Proofs
def Cheats (h:Hp):Prop:=∃a c,LdIs h ⟨9,0,none⟩ [.slice (some a) 61 c]∧∀k,k<61→LdIs h (Addr.add (Addr.add a (k*2)) 0) [.int .i64 (newD k:Int)]∧LdIs h (Addr.add (Addr.add a (k*2)) 1) [.string (strN (fiveL k))]
theorem Cheats.mono {h h':Hp} (e:Cheats h) (hl:h≤h'):Cheats h':=by
 obtain ⟨a,c,e1,e2⟩:=e
 exact ⟨a,c,zbd hl e1,fun k hk=>⟨zbd hl (e2 k hk).1,zbd hl (e2 k hk).2⟩⟩
theorem zax2 :∀k,k<61→newD k≤19:=by decide+kernel
theorem zen2 {k:Nat} (h:1≤k):1≤newD k:=by unfold newD;rw [if_neg (by omega)];exact zmn _
section
variable {h0 h:Hp} {b:Nat} {ds:List Nat} {dp:Int} {neg tr:Bool}
theorem zay2 {v:Nat} (hv:v<18446744073709551616):IntKind.wrap .u64 ((v:Int)-(IntKind.wrap .u64 ((10:Int)*(IntKind.wrap .u64 (Int.tdiv (v:Int) (10:Int))))))=((v%10:Nat):Int):=by
 rw [show Int.tdiv (v:Int) (10:Int)=((v / 10:Nat):Int) from tdivN,wrapN (by omega),show (10:Int)*((v / 10:Nat):Int)=((10*(v / 10):Nat):Int) by omega,wrapN (by omega),zan]
 omega
theorem zaz2 {v:Nat} (hv:v<18446744073709551616):IntKind.wrap .u64 (Int.tdiv (v:Int) (10:Int))=((v / 10:Nat):Int):=by
 rw [show Int.tdiv (v:Int) (10:Int)=((v / 10:Nat):Int) from tdivN,wrapN (by omega)]
theorem zeo2 {n k c:Nat} {Q:Hp→Prop} (t:Cheats h0) (x:DX h0 h b ds n dp neg tr) (g:GoodD ds n) (hc:ds[0]? =some c) (k1:1≤k) (k2:k≤60) (d0: -1000000000000000≤dp) (d1:dp≤1000000000000000)
  (hk:∀h' ds' (m D:Nat) tr',DX h0 h' b ds' m (dp+(D:Int)) neg tr'→GoodD ds' m→newD k≤D+1→D≤newD k→(D=0→(c-48)*2^k≤ds'.getD 0 0-48)→Q h'):zfb Tryz.prog (some ⟨b,0,none⟩) (k:Int) Q h:=by
 have h2:2^k≤2^60:=Nat.pow_le_pow_right (by decide) k2
 have hp:=Nat.two_pow_pos k
 have hl:=x.len
 have g1:=g.pos
 have g2:=g.most
 obtain ⟨c',hc',c49,c58⟩:=g.head
 have ecc:c'=c:=Option.some.inj (hc'.symm.trans hc)
 rw [ecc] at c49 c58
 have hdig:=(zui (i:=n) (by omega)).1 g.digs
 have hnew:=zax2 k (by omega)
 have hnew1:=zen2 k1
 have hc0:ds.getD 0 0=c:=by rw [List.getD,hc];rfl
 have htl:(ds.take n).length=n:=by rw [List.length_take];omega
 have hhead:(ds.take n)[0]? =some c:=by rw [List.getElem?_take,if_pos (by omega)];exact hc
 obtain ⟨a,cap,t1,t2⟩:=t
 obtain ⟨t3,t4⟩:=t2 k (by omega)
 have s3:sat (some a) 2 (k:Int)=Addr.add a (k*2):=by unfold sat;rw [Int.toNat_natCast];rfl
 unfold zfb
 refine ld_c (sh:=shSl) ⟨some a,61,cap⟩ (zbd x.le t1) ⟨⟨by simp,by omega,by show (k:Int)<((61:Nat):Int);omega⟩,?_⟩
 dsimp only
 rw [s3]
 refine ld_c (sh:=shInt .i64) (newD k:Int) (zbd x.le t3) ?_
 refine JoinW1.intro (fun d m=>m=h∧∃(lt:Bool) (D:Nat),d=(D:Int)∧D=(if lt then newD k-1 else newD k)∧LessL lt (ds.take n) k) ?_ ?_
 ·refine zag (zag (ld_c (sh:=shInt .i64) (n:Int) x.ndAt ⟨⟨by decide,by omega,by omega⟩,letW ?_⟩))
  refine ld_c (sh:=shSl) ⟨some a,61,cap⟩ (zbd x.le t1) ⟨⟨by simp,by omega,by show (k:Int)<((61:Nat):Int);omega⟩,?_⟩
  dsimp only
  rw [s3]
  refine ld_c (sh:=shStr) (strN (fiveL k)) (zbd x.le t4) ?_
  have eb:sbase (some (Addr.add (⟨b,0,none⟩:Addr) 0)) 1 0 800=some ⟨b,0,none⟩:=by rw [box_add];unfold sbase;rw [if_neg (by decide)];show some (Addr.add _ _)=_;rw [box_add]
  rw [eb,Int.toNat_natCast,Nat.sub_zero]
  refine zjm (b:=⟨some ⟨b,0,none⟩,n,800⟩) (zem2 (x.row g2) g.digs (by omega) k1 (by omega) fun lt hlt=> ?_)
  cases lt with
  | true=>
   refine iteT rfl ⟨rfl,true,newD k-1,?_,rfl,hlt⟩
   rw [zae (by omega) (by omega)];omega
  | false=>exact iteF (by decide) ⟨rfl,false,newD k,rfl,rfl,hlt⟩
 rintro _ _ ⟨rfl,lt,D,rfl,hD,hlt⟩
 have hDb:newD k≤D+1∧D≤newD k:=by rw [hD];split<;>omega
 obtain ⟨q1,q2,q3⟩:=zqx1 g.digs hhead c49 k1 (by omega) hlt hD
 rw [htl] at q1 q2
 clear hlt hD lt
 refine zag (ld_c (sh:=shInt .i64) (n:Int) x.ndAt (zag (ld_c (sh:=shInt .i64) (n:Int) x.ndAt ?_)))
 rw [zae (n:=(n:Int)-1) (by omega) (by omega),zae (n:=(n:Int)+(D:Int)) (by omega) (by omega)]
 have hX:∀j,j≤n→(ds.take n).take j=ds.take j:=fun j hj=>by rw [List.take_take,Nat.min_eq_left hj]
 refine LoopW3.intro (fun r w v m=>∃(j N:Nat) (ds1:List Nat) (tr1:Bool),r=(j:Int)-1∧w=((j+D:Nat):Int)∧v=(N:Int)∧j≤n∧N<2^k∧numV (ds.take j)*2^k+N=numV (ds.take n)*2^k / 10^(n-j)∧DX h0 m b ds1 n dp neg tr1∧
   (∀q,q<j→ds1.getD q 0=ds.getD q 0)∧(∀q,j+D≤q→q<n+D→q<800→48≤ds1.getD q 0∧ds1.getD q 0<58)∧(D=0→j=0→(c-48)*2^k≤ds1.getD 0 0-48)) (fun r _ _ _=>(r+1).toNat)
  ⟨n,0,ds,tr,rfl,by omega,rfl,by omega,hp,by rw [Nat.sub_self,Nat.pow_zero,Nat.div_one,Nat.add_zero],x,fun _ _=>rfl,fun q a1 a2=>by omega,fun _ e=>by omega⟩ ?_
 rintro _ _ _ m ⟨j,N,ds1,tr1,rfl,rfl,rfl,hj,hN,hV,x1,hold,hnw,hh0⟩
 have hl1:=x1.len
 refine iteB (fun hr=> ?_) fun hr=> ?_
 ·have hr:(j:Int)-1≥0:=of_decide_eq_true hr
  obtain ⟨i,rfl⟩:∃i,j=i+1:=⟨j-1,by omega⟩
  have hdi:=hdig i (by omega)
  have hoi:=hold i (by omega)
  have ei:((i+1:Nat):Int)-1=(i:Int):=by omega
  rw [ei]
  refine zag ⟨⟨by omega,by omega⟩,?_⟩
  rw [Int.toNat_natCast,decAt]
  refine ld_c (sh:=shInt .u8) ((ds1.getD i 0:Nat):Int) (x1.digit (by omega)) ⟨by omega,by decide,?_⟩
  rw [hoi]
  obtain ⟨d,hd⟩:∃d,ds.getD i 0=48+d:=⟨ds.getD i 0-48,by omega⟩
  have hd10:d<10:=by omega
  rw [hd]
  have hsh:shlI .u64 (IntKind.wrap .u64 ((IntKind.wrap .u64 ((48+d:Nat):Int))-(48:Int))) (k:Int)=((d*2^k:Nat):Int):=by
   rw [show IntKind.wrap .u64 ((IntKind.wrap .u64 ((48+d:Nat):Int))-(48:Int))=(d:Int) by rw [zan,zan];omega]
   refine shlN (by omega) ?_
   have:=Nat.mul_le_mul (show d≤9 by omega) h2
   omega
  have hVb:N+d*2^k<10*2^k:=by
   have:=Nat.mul_le_mul_right (2^k) (show d≤9 by omega)
   omega
  have eV:IntKind.wrap .u64 ((N:Int)+((d*2^k:Nat):Int))=((N+d*2^k:Nat):Int):=by rw [zan];omega
  rw [hsh,eV,zay2 (by omega),zaz2 (by omega)]
  have ew:IntKind.wrap .i64 (((i+1+D:Nat):Int)-1)=((i+D:Nat):Int):=by rw [zae (by omega) (by omega)];omega
  rw [ew,zae (n:=(i:Int)-1) (by omega) (by omega)]
  have hnt:=zxh (ds:=ds) (i:=i) (z:=48+d) (by rw [←hd];simp [List.getD,show i<ds.length by omega])
  rw [show 48+d-48=d by omega] at hnt
  have hV2:numV (ds.take i)*2^k+(N+d*2^k) / 10=numV (ds.take n)*2^k / 10^(n-i):=by
   rw [hnt] at hV
   have:=zar2 hV
   rw [show n-(i+1)+1=n-i by omega] at this
   exact this
  have hq2:(N+d*2^k) / 10<2^k:=by omega
  have hzero:D=0→i=0→N+d*2^k<10∧d=c-48:=fun e1 e2=>by
   subst e1 e2
   rw [List.take_zero,show numV []=0 from rfl,Nat.zero_mul,Nat.zero_add,Nat.sub_zero] at hV2
   rw [Nat.pow_zero] at q1
   refine ⟨by omega,by omega⟩
  refine JoinW0.intro (fun m=>∃(ds2:List Nat) (tr2:Bool),DX h0 m b ds2 n dp neg tr2∧(∀q,q<i→ds2.getD q 0=ds.getD q 0)∧(∀q,i+D≤q→q<n+D→q<800→48≤ds2.getD q 0∧ds2.getD q 0<58)∧(D=0→i=0→(c-48)*2^k≤ds2.getD 0 0-48)) ?_ ?_
  ·generalize hdw:decide (((i+D:Nat):Int)<800)=dw
   cases dw with
   | true=>
    have hw:((i+D:Nat):Int)<800:=of_decide_eq_true hdw
    rw [if_pos rfl]
    refine zag ⟨⟨by omega,by omega⟩,?_⟩
    rw [Int.toNat_natCast,decAt]
    have hm10:=Nat.mod_lt (N+d*2^k) (show 0<10 by decide)
    refine x1.putD (c:=48+(N+d*2^k)%10) (by omega) (digB hm10) fun m2 x2=>⟨_,tr1,x2,fun q hq=> ?_,fun q a1 a2 a3=> ?_,fun e1 e2=> ?_⟩
    ·rw [zqm (by omega),if_neg (by omega)];exact hold q (by omega)
    ·rw [zqm (by omega)]
     by_cases e:i+D=q
     ·rw [if_pos e]
      generalize (N+d*2^k)%10=z at*
      omega
     ·rw [if_neg e];exact hnw q (by omega) a2 a3
    ·obtain ⟨z1,z2⟩:=hzero e1 e2
     rw [zqm (by omega),if_pos (by omega),Nat.mod_eq_of_lt z1,z2]
     omega
   | false=>
    have hw:¬((i+D:Nat):Int)<800:=of_decide_eq_false hdw
    rw [if_neg (by decide)]
    have keep:(∀q,q<i→ds1.getD q 0=ds.getD q 0)∧(∀q,i+D≤q→q<n+D→q<800→48≤ds1.getD q 0∧ds1.getD q 0<58)∧(D=0→i=0→(c-48)*2^k≤ds1.getD 0 0-48):=
     ⟨fun q hq=>hold q (by omega),fun q a1 a2 a3=>by omega,fun e1 e2=>by omega⟩
    exact iteB (fun _=>zag (x1.putTr fun m2 x2=>⟨ds1,true,x2,keep⟩)) fun _=>⟨ds1,tr1,x1,keep⟩
  rintro m2 ⟨ds2,tr2,x2,e1,e2,e3⟩
  exact ⟨⟨i,_,ds2,tr2,rfl,rfl,rfl,by omega,hq2,hV2,x2,e1,e2,e3⟩,by omega⟩
 ·have hr:¬(j:Int)-1≥0:=fun e=>hr (decide_eq_true e)
  have hj0:j=0:=by omega
  subst hj0
  rw [List.take_zero,show numV []=0 from rfl,Nat.zero_mul,Nat.zero_add,Nat.sub_zero] at hV
  rw [←hV] at q1 q2
  have hh0':=fun e=>hh0 e rfl
  refine LoopW2.intro (fun w v m=>∃(W N:Nat) (ds1:List Nat),w=(W:Int)∧v=(N:Int)∧W≤D∧N<2^k∧N<10^W∧(1≤W→10^(W-1)≤N)∧DX h0 m b ds1 n dp neg tr1∧(∀q,W≤q→q<n+D→q<800→48≤ds1.getD q 0∧ds1.getD q 0<58)∧(W=0→49≤ds1.getD 0 0)∧(D=0→(c-48)*2^k≤ds1.getD 0 0-48)) (fun w _ _=>w.toNat)
   ⟨D,N,ds1,by omega,rfl,Nat.le_refl _,hN,q1,q2,x1,fun q a1 a2 a3=>hnw q (by omega) a2 a3,fun e=> ?_,hh0'⟩ ?_
  ·have:=hh0' e
   have:=Nat.mul_le_mul (show 1≤c-48 by omega) hp
   omega
  clear hh0 hh0' hnw hold x1 hl1 hr q1 q2 hV hN ds1 m N
  rintro _ _ m ⟨W,N,ds1,rfl,rfl,hW,hN,n1,n2,x1,hnw,hh1,hh0⟩
  have hl1:=x1.len
  refine iteB (fun hn=>⟨by decide,?_⟩) fun hn=> ?_
  ·have hn:(N:Int)>0:=of_decide_eq_true hn
   have hW1:1≤W:=by
    refine Nat.pos_of_ne_zero fun e=> ?_
    subst e
    rw [Nat.pow_zero] at n1
    omega
   obtain ⟨V,rfl⟩:∃V,W=V+1:=⟨W-1,by omega⟩
   have n2:=n2 hW1
   rw [Nat.add_sub_cancel] at n2
   rw [Nat.pow_succ] at n1
   have ew:IntKind.wrap .i64 (((V+1:Nat):Int)-1)=(V:Int):=by rw [zae (by omega) (by omega)];omega
   rw [ew,zay2 (by omega),zaz2 (by omega)]
   have hm10:=Nat.mod_lt N (show 0<10 by decide)
   refine JoinW0.intro (fun m=>∃ds2:List Nat,DX h0 m b ds2 n dp neg tr1∧(∀q,V≤q→q<n+D→q<800→48≤ds2.getD q 0∧ds2.getD q 0<58)∧(V=0→49≤ds2.getD 0 0)) ?_ ?_
   ·rw [decide_eq_true (show (V:Int)<800 by omega),if_pos rfl]
    refine zag ⟨⟨by omega,by omega⟩,?_⟩
    rw [Int.toNat_natCast,decAt]
    refine x1.putD (c:=48+N%10) (by omega) (digB hm10) fun m2 x2=>⟨_,x2,fun q a1 a2 a3=> ?_,fun e=> ?_⟩
    ·rw [zqm (by omega)]
     by_cases e:V=q
     ·rw [if_pos e];omega
     ·rw [if_neg e];exact hnw q (by omega) a2 a3
    ·subst e
     rw [Nat.pow_zero] at n1 n2
     rw [zqm (by omega),if_pos rfl]
     omega
   rintro m2 ⟨ds2,x2,e1,e2⟩
   refine ⟨⟨V,N / 10,ds2,rfl,rfl,by omega,by omega,by omega,fun v1=> ?_,x2,e1,e2,fun e=>by omega⟩,by omega⟩
   obtain ⟨U,rfl⟩:∃U,V=U+1:=⟨V-1,by omega⟩
   rw [Nat.pow_succ] at n2
   rw [Nat.add_sub_cancel]
   omega
  ·have hn:¬(N:Int)>0:=fun e=>hn (decide_eq_true e)
   have hW0:W=0:=by
    refine Classical.byContradiction fun e=> ?_
    have:=n2 (by omega)
    have:=Nat.pow_pos (n:=W-1) (show 0<10 by decide)
    omega
   subst hW0
   have h49:=hh1 rfl
   refine zag (ld_c (sh:=shInt .i64) (n:Int) x1.ndAt (zag ?_))
   rw [zae (by omega) (by omega),show (n:Int)+(D:Int)=((n+D:Nat):Int) by omega]
   refine x1.putNd fun m2 x2=> ?_
   refine JoinW0.intro (fun m=>∃M:Nat,1≤M∧M≤800∧M≤n+D∧DX h0 m b ds1 M dp neg tr1) ?_ ?_
   ·refine zag (ld_c (sh:=shInt .i64) ((n+D:Nat):Int) x2.ndAt ?_)
    generalize hdw:decide (((n+D:Nat):Int)≥800)=dw
    cases dw with
    | true=>
     have hw:((n+D:Nat):Int)≥800:=of_decide_eq_true hdw
     rw [if_pos rfl]
     exact zag (x2.putNd fun m3 x3=>⟨800,by decide,by decide,by omega,x3⟩)
    | false=>
     have hw:¬((n+D:Nat):Int)≥800:=of_decide_eq_false hdw
     rw [if_neg (by decide)]
     exact ⟨n+D,by omega,by omega,Nat.le_refl _,x2⟩
   rintro m3 ⟨M,M1,M2,M3,x3⟩
   refine zag (ld_c (sh:=shInt .i64) dp x3.dpAt (zag ?_))
   rw [zae (by omega) (by omega)]
   refine x3.putDp fun m4 x4=> ?_
   have d0':=hnw 0 (by omega) (by omega) (by decide)
   have g3:GoodD ds1 M:=⟨M1,M2,(zui (by omega)).2 fun q hq=>hnw q (by omega) (by omega) (by omega),ds1.getD 0 0,by simp [List.getD,show 0<ds1.length by omega],h49,d0'.2⟩
   exact zjr (zuh1 x4 g3 fun m5 q x5 g5=>hk m5 ds1 q D tr1 x5 g5 hDb.1 hDb.2 hh0)
end
end Lf

namespace Lf
open Go Go.Proofs
def dpOf (h:Hp) (b:Nat):Int:=match hcell h ⟨b,801,none⟩ with
 | some (.int _ n)=>n
 | _=>0
def d0Of (h:Hp) (b:Nat):Nat:=match hcell h ⟨b,0,none⟩ with
 | some (.int _ n)=>n.toNat
 | _=>0
section
variable {h0 h:Hp} {b:Nat} {ds:List Nat} {dp:Int} {neg tr:Bool}
theorem DX.dpIs {nd:Int} (x:DX h0 h b ds nd dp neg tr):dpOf h b=dp:=by
 have:=x.dpAt 0 _ rfl
 rw [box_add,box_add] at this
 unfold dpOf
 rw [show 0+801+0=801 from rfl] at this
 rw [this]
theorem DX.d0Is {nd:Int} (x:DX h0 h b ds nd dp neg tr):d0Of h b=ds.getD 0 0:=by
 have:=x.digit (i:=0) (by decide) 0 _ rfl
 rw [box_add] at this
 unfold d0Of
 rw [show 0+0=0 from rfl] at this
 rw [this]
 exact Int.toNat_natCast _
theorem GoodD.first {n:Nat} (g:GoodD ds n):ds[0]? =some (ds.getD 0 0)∧49≤ds.getD 0 0∧ds.getD 0 0<58:=by
 obtain ⟨c,hc,c1,c2⟩:=g.head
 have:ds.getD 0 0=c:=by rw [List.getD,hc];rfl
 rw [this]
 exact ⟨hc,c1,c2⟩
theorem zrc1 {n k:Nat} {Q:Hp→Prop} (x:DX h0 h b ds n dp neg tr) (g:GoodD ds n) (k1:1≤k) (k2:k≤60) (d0: -1000000000000000≤dp) (d1:dp≤1000000000000000)
  (hk:∀h' ds' (m r:Nat) tr',DX h0 h' b ds' m (dp-((r:Int)-1)) neg tr'→GoodD ds' m→1≤r→r≤900→(4≤k→2≤r)→(k=3→2≤r∨(56≤ds.getD 0 0∧ds'.getD 0 0=49))→Q h'):zar Tryz.prog (some ⟨b,0,none⟩) (-(k:Int)) Q h:=by
 unfold zar
 have gp:=g.pos
 refine zag (ld_c (sh:=shInt .i64) (n:Int) x.ndAt (iteF (fun hh=>by have:((n:Nat):Int)=0:=beq_iff_eq.1 hh;omega) (iteF (fun hh=>by have:=of_decide_eq_true hh;omega) (iteT (decide_eq_true (by omega)) ?_))))
 refine LoopW1.intro (fun k1 m=>m=h∧k1= -(k:Int)) (fun _ _=>0) ⟨rfl,rfl⟩ ?_
 rintro _ m ⟨rfl,rfl⟩
 have e:IntKind.wrap .u64 (IntKind.wrap .i64 ((0:Int)-(-(k:Int))))=(k:Int):=by rw [zae (by omega) (by omega),zan];omega
 rw [e]
 refine iteF (fun hh=>by have:=of_decide_eq_true hh;omega) (zdj (zfn1 x g g.first.1 k1 k2 d0 d1 hk))
theorem zfo1 {n:Nat} {K:Int} {Q:Hp→Prop} (x:DX h0 h b ds n dp neg tr) (g:GoodD ds n) (k1:K<0) (k2: -100000000≤K) (d0: -1000000000≤dp) (d1:dp≤1000000000)
  (hk:∀h' ds' (m:Nat) dp' tr',DX h0 h' b ds' m dp' neg tr'→GoodD ds' m→ -100000000000000≤dp'→dp'≤dp→Q h'):zar Tryz.prog (some ⟨b,0,none⟩) K Q h:=by
 unfold zar
 have gp:=g.pos
 refine zag (ld_c (sh:=shInt .i64) (n:Int) x.ndAt (iteF (fun hh=>by have:((n:Nat):Int)=0:=beq_iff_eq.1 hh;omega) (iteF (fun hh=>by have:=of_decide_eq_true hh;omega) (iteT (decide_eq_true k1) ?_))))
 refine LoopW1.intro (fun k m=>K≤k∧k<0∧∃(ds1:List Nat) (n1:Nat) (dp1:Int) (tr1:Bool),DX h0 m b ds1 n1 dp1 neg tr1∧GoodD ds1 n1∧dp1≤dp∧dp-15*(k-K)≤dp1) (fun k _=>(-k).toNat) ⟨Int.le_refl _,k1,ds,n,dp,tr,x,g,Int.le_refl _,by omega⟩ ?_
 rintro k m ⟨a1,a2,ds1,n1,dp1,tr1,x1,g1,b1,b2⟩
 refine iteB (fun hc=> ?_) fun hc=> ?_
 ·have hc:k< -60:=of_decide_eq_true hc
  refine zdj (zfn1 (k:=60) x1 g1 g1.first.1 (by decide) (by decide) (by omega) (by omega) fun m2 ds2 q r tr2 x2 g2 r1 r2 _ _=> ?_)
  rw [zae (by omega) (by omega)]
  exact ⟨⟨by omega,by omega,ds2,q,_,tr2,x2,g2,by omega,by omega⟩,by omega⟩
 ·have hc:¬k< -60:=fun e=>hc (decide_eq_true e)
  obtain ⟨j,rfl⟩:∃j:Nat,k= -(j:Int):=⟨(-k).toNat,by omega⟩
  have e:IntKind.wrap .u64 (IntKind.wrap .i64 ((0:Int)-(-(j:Int))))=(j:Int):=by rw [zae (by omega) (by omega),zan];omega
  rw [e]
  refine zdj (zfn1 (k:=j) x1 g1 g1.first.1 (by omega) (by omega) (by omega) (by omega) fun m2 ds2 q r tr2 x2 g2 r1 r2 _ _=> ?_)
  exact hk m2 ds2 q _ tr2 x2 g2 (by omega) (by omega)
theorem zig1 {n k:Nat} {Q:Hp→Prop} (t:Cheats h0) (x:DX h0 h b ds n dp neg tr) (g:GoodD ds n) (k1:1≤k) (k2:k≤60) (d0: -1000000000000000≤dp) (d1:dp≤1000000000000000)
  (hk:∀h' ds' (m D:Nat) tr',DX h0 h' b ds' m (dp+(D:Int)) neg tr'→GoodD ds' m→newD k≤D+1→D≤newD k→(D=0→(ds.getD 0 0-48)*2^k≤ds'.getD 0 0-48)→Q h'):zar Tryz.prog (some ⟨b,0,none⟩) (k:Int) Q h:=by
 unfold zar
 have gp:=g.pos
 refine zag (ld_c (sh:=shInt .i64) (n:Int) x.ndAt (iteF (fun hh=>by have:((n:Nat):Int)=0:=beq_iff_eq.1 hh;omega) (iteT (decide_eq_true (by omega)) ?_)))
 refine LoopW1.intro (fun k1 m=>m=h∧k1=(k:Int)) (fun _ _=>0) ⟨rfl,rfl⟩ ?_
 rintro _ m ⟨rfl,rfl⟩
 rw [show IntKind.wrap .u64 (k:Int)=(k:Int) by rw [zan];omega]
 exact iteF (fun hh=>by have:=of_decide_eq_true hh;omega) (zob (zeo2 t x g g.first.1 k1 k2 d0 d1 hk))
theorem zrd1 {n:Nat} {i:Int} {Q:Bool→Hp→Prop} (x:DX h0 h b ds n dp neg tr) (hn:n≤800) (hq:∀v,Q v h):zdi Tryz.prog (some ⟨b,0,none⟩) i Q h:=by
 unfold zdi
 refine zag (ld_c (sh:=shInt .i64) (n:Int) x.ndAt (letW (iteB (fun _=>hq _) fun hy=> ?_)))
 have hi:0≤i∧i<(n:Int):=by
  rw [Bool.or_eq_true,not_or] at hy
  have h1:¬i<0:=fun e=>hy.1 (decide_eq_true e)
  have h2:¬i≥(n:Int):=fun e=>hy.2 (decide_eq_true e)
  omega
 obtain ⟨j,rfl⟩:=Int.eq_ofNat_of_zero_le hi.1
 refine zag ⟨⟨by omega,by omega⟩,?_⟩
 rw [Int.toNat_natCast,decAt]
 refine ld_c (sh:=shInt .u8) _ (x.digit (by omega)) (zag (ld_c (sh:=shInt .i64) (n:Int) x.ndAt (letW (iteB (fun _=> ?_) fun _=> ?_))))
 ·refine zag (ld_c (sh:=zad) tr x.trAt (iteB (fun _=>hq _) fun _=>zag ⟨fun hh=> ?_,?_⟩))
  ·have:=of_decide_eq_true hh
   rw [zae (by omega) (by omega)]
   exact ⟨by omega,by omega⟩
  ·by_cases hj:j=0
   ·subst hj
    exact ⟨(0:Int),fun e:decide (((0:Nat):Int)>0)=true=>absurd e (by decide),fun e:decide (((0:Nat):Int)>0)=true=>absurd e (by decide),letW (hq _)⟩
   ·have e1:IntKind.wrap .i64 ((j:Int)-1)=((j-1:Nat):Int):=by rw [zae (by omega) (by omega)];omega
    rw [e1,Int.toNat_natCast,decAt]
    exact ld_c (sh:=shInt .u8) _ (x.digit (by omega)) ⟨fun _=>by decide,letW (hq _)⟩
 ·refine zag ⟨⟨by omega,by omega⟩,?_⟩
  rw [decAt]
  exact ld_c (sh:=shInt .u8) _ (x.digit (by omega)) (hq _)
theorem zre1 {n:Nat} {Q:Int→Hp→Prop} (x:DX h0 h b ds n dp neg tr) (hn:n≤800) (hq:∀v,U64 v→Q v h):zbs Tryz.prog (some ⟨b,0,none⟩) Q h:=by
 unfold zbs
 refine zag (ld_c (sh:=shInt .i64) dp x.dpAt (iteB (fun _=>hq _ ⟨18446744073709551615,rfl,by decide⟩) fun h20=> ?_))
 have h20:¬dp>20:=fun e=>h20 (decide_eq_true e)
 refine LoopW2.intro (fun i v m=>m=h∧0≤i∧i≤1000∧U64 v) (fun i _ _=>(1000-i).toNat) ⟨rfl,by omega,by omega,0,rfl,by decide⟩ ?_
 rintro i v m ⟨rfl,i0,i1,hv⟩
 refine zag (ld_c (sh:=shInt .i64) dp x.dpAt (zag (ld_c (sh:=shInt .i64) (n:Int) x.ndAt (letW (iteB (fun hy=> ?_) fun _=> ?_)))))
 ·rw [Bool.and_eq_true] at hy
  have h1:=of_decide_eq_true hy.1
  have h2:=of_decide_eq_true hy.2
  obtain ⟨j,rfl⟩:=Int.eq_ofNat_of_zero_le i0
  refine zag ⟨⟨by omega,by omega⟩,?_⟩
  rw [Int.toNat_natCast,decAt,zae (by omega) (by omega)]
  exact ld_c (sh:=shInt .u8) _ (x.digit (by omega)) ⟨⟨rfl,by omega,by omega,zql _⟩,by omega⟩
 ·refine LoopW2.intro (fun i v k=>k=m∧0≤i∧i≤1000∧U64 v) (fun i _ _=>(1000-i).toNat) ⟨rfl,i0,i1,hv⟩ ?_
  rintro i v m ⟨rfl,i0,i1,hv⟩
  refine zag (ld_c (sh:=shInt .i64) dp x.dpAt (iteB (fun hc=> ?_) fun _=> ?_))
  ·have hc:=of_decide_eq_true hc
   rw [zae (by omega) (by omega)]
   exact ⟨⟨rfl,by omega,by omega,zql _⟩,by omega⟩
  ·refine zag (ld_c (sh:=shInt .i64) dp x.dpAt (zkw (zrd1 x hn fun r=>iteB (fun _=>hq _ (zql _)) fun _=>hq _ hv)))
end
end Lf

namespace Lf
open Go Go.Proofs
def powL :List Int:=[1,3,6,9,13,16,19,23,26]
def pN (i:Nat):Nat:=if 9≤i then 27 else [1,3,6,9,13,16,19,23,26].getD i 0
theorem zge2 :∀i,i<9→powL[i]? =some (pN i:Int)∧1≤pN i∧pN i≤27∧(2≤i→6≤pN i):=by decide
theorem pN_in (i:Nat):1≤pN i∧pN i≤27∧(2≤i→6≤pN i):=by
 by_cases h:9≤i
 ·unfold pN
  rw [if_pos h]
  omega
 ·exact (zge2 i (by omega)).2
def PowT (h:Hp):Prop:=∃a c,LdIs h ⟨11,0,none⟩ [.slice (some a) 9 c]∧LdIs h a (powL.map fun x=>.int .i64 x)
structure SEnv (h:Hp):Prop where
 hx:HEnv h
 ch:Cheats h
 pw:PowT h
theorem SEnv.mono {h h':Hp} (e:SEnv h) (hl:h≤h'):SEnv h':=by
 obtain ⟨a,c,e1,e2⟩:=e.pw
 exact ⟨e.hx.mono hl,e.ch.mono hl,a,c,zbd hl e1,zbd hl e2⟩
section
variable {h0 h:Hp} {b:Nat} {ds:List Nat} {dp:Int} {neg tr:Bool}
theorem zca1 {n:Int} {f:Int→Int→Int} {g:Int} {ov:Bool} {Q:Int→Bool→Hp→Prop} (c0:LdIs h (Addr.add ⟨7,0,none⟩ 0) [.int .u64 52]) (c1:LdIs h (Addr.add ⟨7,0,none⟩ 1) [.int .u64 11]) (x:DX h0 h b ds n dp neg tr)
  (hf:∀a b,U64 (f a b)) (hg:U64 g) (hq:∀v ov,U64 v→Q v ov h):NilW none (some ⟨b,0,none⟩) fun p=>LdW none zad h (Addr.add p 802) fun x6=>
   (if x6=true then
   NilW none (some ⟨7,0,none⟩) fun p7=>LdW none (shInt .u64) h (Addr.add p7 0) fun x7=>
   ((0:Int)≤x7∧NilW none (some ⟨7,0,none⟩) fun p8=>LdW none (shInt .u64) h (Addr.add p8 1) fun x8=>
   ((0:Int)≤x8∧Q (f x7 x8) ov h))
   else
   Q g ov h):=
 zag (ld_c (sh:=zad) neg x.negAt (iteB (fun _=>zag (ld_c (sh:=shInt .u64) (52:Int) c0 ⟨by decide,zag (ld_c (sh:=shInt .u64) (11:Int) c1 ⟨by decide,hq _ _ (hf _ _)⟩)⟩)) fun _=>hq _ _ hg))
theorem zba2 {n:Nat} {i:Int} {K:Int→Hp→Prop} {A:Int→Int} (pw:PowT h) (x:DX h0 h b ds n dp neg tr) (hA:A dp=i) (i0:0≤i) (hk:K (pN i.toNat:Int) h):
  NilW none (some ⟨b,0,none⟩) fun p4=>LdW none (shInt .i64) h (Addr.add p4 801) fun x4=>LdW none shSl h ⟨11,0,none⟩ fun x5=>
   (if (decide (A x4≥((x5.len:Nat):Int)))=true then
   K (27:Int) h
   else
   LdW none shSl h ⟨11,0,none⟩ fun x6=>NilW none (some ⟨b,0,none⟩) fun p5=>LdW none (shInt .i64) h (Addr.add p5 801) fun x7=>
   ((InB x6.base x6.len (A x7))∧LdW none (shInt .i64) h (sat x6.base 1 (A x7)) fun x8=>
   K x8 h)):=by
 obtain ⟨a,c,e1,e2⟩:=pw
 obtain ⟨j,rfl⟩:=Int.eq_ofNat_of_zero_le i0
 rw [Int.toNat_natCast] at hk
 refine zag (ld_c (sh:=shInt .i64) dp x.dpAt (ld_c (sh:=shSl) ⟨some a,9,c⟩ e1 ?_))
 rw [hA]
 by_cases hj:9≤j
 ·have:pN j=27:=by unfold pN;rw [if_pos hj]
  rw [this] at hk
  exact iteT (decide_eq_true (by show (j:Int)≥((9:Nat):Int);omega)) hk
 ·refine iteF (fun hh=>by have h9:(j:Int)≥((9:Nat):Int):=of_decide_eq_true hh;omega) ?_
  refine ld_c (sh:=shSl) ⟨some a,9,c⟩ e1 (zag (ld_c (sh:=shInt .i64) dp x.dpAt ?_))
  rw [hA]
  refine ⟨⟨by simp,by omega,by show (j:Int)<((9:Nat):Int);omega⟩,ld_c (sh:=shInt .i64) (pN j:Int) ?_ hk⟩
  show LdIs h (Addr.add a (Int.toNat (j:Int)*1)) [.int .i64 (pN j:Int)]
  rw [Int.toNat_natCast,Nat.mul_one]
  exact zsd (e2 j _ (by rw [List.getElem?_map,(zge2 j (by omega)).1];rfl))
theorem zui1 (e:HEnv h):LdIs h (Addr.add ⟨7,0,none⟩ 0) [.int .u64 52]∧LdIs h (Addr.add ⟨7,0,none⟩ 1) [.int .u64 11]∧LdIs h (Addr.add ⟨7,0,none⟩ 2) [.int .i64 (-1023)]:=
 ⟨by rw [box_add];exact e.i0,by rw [box_add];exact e.i1,by rw [box_add];exact e.i2⟩
theorem zks1 {n:Nat} {Q:Int→Bool→Hp→Prop} (e:SEnv h0) (x:DX h0 h b ds n dp neg tr) (g:n=0∨GoodD ds n) (hq:∀v ov h',h0≤h'→U64 v→Q v ov h'):
  zch Tryz.prog (some ⟨b,0,none⟩) (some ⟨7,0,none⟩) Q h:=by
 obtain ⟨c0,c1,c2⟩:=zui1 (e.hx.mono x.le)
 have hqh:∀v ov,U64 v→Q v ov h:=fun v ov hv=>hq v ov h x.le hv
 unfold zch
 refine zag (ld_c (sh:=shInt .i64) (n:Int) x.ndAt (iteB (fun _=> ?_) fun hn=> ?_))
 ·refine zag (ld_c (sh:=shInt .i64) (-1023:Int) c2 (zag (ld_c (sh:=shInt .u64) (52:Int) c0 ⟨by decide,zag (ld_c (sh:=shInt .i64) (-1023:Int) c2 (zag (ld_c (sh:=shInt .u64) (11:Int) c1 ⟨by decide,zag (ld_c (sh:=shInt .u64) (52:Int) c0 ⟨by decide,?_⟩)⟩)))⟩)))
  exact zca1 c0 c1 x (fun _ _=>zbb _ _ _) (zbb _ _ _) hqh
 have g:GoodD ds n:=g.resolve_left fun e=>hn (by rw [e];rfl)
 refine zag (ld_c (sh:=shInt .i64) dp x.dpAt (iteB (fun _=> ?_) fun h310=> ?_))
 ·refine zag (ld_c (sh:=shInt .u64) (11:Int) c1 ⟨by decide,zag (ld_c (sh:=shInt .i64) (-1023:Int) c2 (zag (ld_c (sh:=shInt .u64) (52:Int) c0 ⟨by decide,zag (ld_c (sh:=shInt .i64) (-1023:Int) c2 (zag (ld_c (sh:=shInt .u64) (11:Int) c1 ⟨by decide,zag (ld_c (sh:=shInt .u64) (52:Int) c0 ⟨by decide,?_⟩)⟩)))⟩)))⟩)
  exact zca1 c0 c1 x (fun _ _=>zbb _ _ _) (zbb _ _ _) hqh
 have h310:¬dp>310:=fun e=>h310 (decide_eq_true e)
 refine zag (ld_c (sh:=shInt .i64) dp x.dpAt (iteB (fun _=> ?_) fun h330=> ?_))
 ·refine zag (ld_c (sh:=shInt .i64) (-1023:Int) c2 (zag (ld_c (sh:=shInt .u64) (52:Int) c0 ⟨by decide,zag (ld_c (sh:=shInt .i64) (-1023:Int) c2 (zag (ld_c (sh:=shInt .u64) (11:Int) c1 ⟨by decide,zag (ld_c (sh:=shInt .u64) (52:Int) c0 ⟨by decide,?_⟩)⟩)))⟩)))
  exact zca1 c0 c1 x (fun _ _=>zbb _ _ _) (zbb _ _ _) hqh
 have h330:¬dp< -330:=fun e=>h330 (decide_eq_true e)
 refine LoopW1.intro (fun ex m=>∃(ds1:List Nat) (n1:Nat) (dp1:Int) (tr1:Bool),DX h0 m b ds1 n1 dp1 neg tr1∧GoodD ds1 n1∧ -2000≤dp1∧dp1≤310∧0≤ex∧ex+27*((dp1.toNat*10+ds1.getD 0 0:Nat):Int)≤1000000) (fun _ m=>(dpOf m b).toNat*10+d0Of m b)
  ⟨ds,n,dp,tr,x,g,by omega,by omega,by omega,by have:=g.first;omega⟩ ?_
 rintro ex m ⟨ds1,n1,dp1,tr1,x1,g1,d0,d1,e0,e1⟩
 obtain ⟨-,f1,f2⟩:=g1.first
 refine zag (ld_c (sh:=shInt .i64) dp1 x1.dpAt (iteB (fun hd=> ?_) fun hd=> ?_))
 ·have hd:dp1>0:=of_decide_eq_true hd
  obtain ⟨p1,p2,p3⟩:=pN_in dp1.toNat
  refine JoinW1.intro (fun k m2=>m2=m∧k=(pN dp1.toNat:Int)) ?_ ?_
  ·exact zba2 (K:=fun k m2=>m2=m∧k=(pN dp1.toNat:Int)) (A:=fun x=>x) ((e.mono x1.le).pw) x1 rfl (by omega) ⟨rfl,rfl⟩
  rintro _ m ⟨rfl,rfl⟩
  rw [zae (n:=(0:Int)-_) (by omega) (by omega),show (0:Int)-(pN dp1.toNat:Int)= -(pN dp1.toNat:Int) by omega,zae (n:=ex+_) (by omega) (by omega)]
  refine zbp (zrc1 x1 g1 p1 (by omega) (by omega) (by omega) fun m2 ds2 q r tr2 x2 g2 r1 r2 r4 r3=> ?_)
  obtain ⟨-,f3,f4⟩:=g2.first
  have key:(dp1-((r:Int)-1)).toNat*10+ds2.getD 0 0<dp1.toNat*10+ds1.getD 0 0:=by
   by_cases h2:2≤dp1.toNat
   ·have:=r4 (by have:=p3 h2;omega)
    omega
   ·have h1:dp1=1:=by omega
    subst h1
    rcases r3 (by decide) with r3 | ⟨r3,r5⟩
    ·omega
    ·omega
  refine ⟨⟨ds2,q,_,tr2,x2,g2,by omega,by omega,by omega,by omega⟩,?_⟩
  rw [x2.dpIs,x2.d0Is,x1.dpIs,x1.d0Is]
  exact key
 have hd:¬dp1>0:=fun e=>hd (decide_eq_true e)
 refine LoopW1.intro (fun ex m=>∃(ds2:List Nat) (n2:Nat) (dp2:Int) (tr2:Bool),DX h0 m b ds2 n2 dp2 neg tr2∧GoodD ds2 n2∧ -2000≤dp2∧dp2≤1000∧ex≤1000000∧27*(((1-dp2).toNat*10+(58-ds2.getD 0 0):Nat):Int)-2000000≤ex) (fun _ m=>(1-dpOf m b).toNat*10+(58-d0Of m b))
  ⟨ds1,n1,dp1,tr1,x1,g1,by omega,by omega,by omega,by omega⟩ ?_
 rintro ex m ⟨ds1,n1,dp1,tr1,x1,g1,d0,d1,e0,e1⟩
 obtain ⟨c0,c1,c2⟩:=zui1 (e.hx.mono x1.le)
 obtain ⟨-,f1,f2⟩:=g1.first
 refine zag (ld_c (sh:=shInt .i64) dp1 x1.dpAt (zag (ld_c (sh:=shInt .i64) dp1 x1.dpAt (zag ⟨fun _=>by decide,?_⟩))))
 have ea:Addr.add (Addr.add (⟨b,0,none⟩:Addr) 0) 0=⟨b,0,none⟩:=by rw [box_add,box_add]
 rw [ea]
 refine ld_c (sh:=shInt .u8) ((ds1.getD 0 0:Nat):Int) (x1.digit (by decide)) (letW (letW (iteB (fun hy=> ?_) fun _=> ?_)))
 ·have hc:dp1<0∨(dp1=0∧ds1.getD 0 0<53):=by
   rw [Bool.or_eq_true,Bool.and_eq_true] at hy
   rcases hy with hy | hy
   ·exact .inl (of_decide_eq_true hy)
   ·refine .inr ⟨beq_iff_eq.1 hy.1,?_⟩
    have:((ds1.getD 0 0:Nat):Int)<53:=of_decide_eq_true hy.2
    omega
  obtain ⟨p1,p2,p3⟩:=pN_in (-dp1).toNat
  refine JoinW1.intro (fun k m2=>m2=m∧k=(pN (-dp1).toNat:Int)) ?_ ?_
  ·exact zba2 (K:=fun k m2=>m2=m∧k=(pN (-dp1).toNat:Int)) (A:=fun x=>IntKind.wrap .i64 ((0:Int)-x)) (i:= -dp1) ((e.mono x1.le).pw) x1 (by show IntKind.wrap .i64 ((0:Int)-dp1)= -dp1;rw [zae (by omega) (by omega)];omega) (by omega) ⟨rfl,rfl⟩
  rintro _ m ⟨rfl,rfl⟩
  rw [zae (n:=ex-_) (by omega) (by omega)]
  refine zbp (zig1 e.ch x1 g1 p1 (by omega) (by omega) (by omega) fun m2 ds2 q D tr2 x2 g2 a1 a2 a3=> ?_)
  obtain ⟨-,f3,f4⟩:=g2.first
  have hnd:=zax2 (pN (-dp1).toNat) (by omega)
  have key:(1-(dp1+(D:Int))).toNat*10+(58-ds2.getD 0 0)<(1-dp1).toNat*10+(58-ds1.getD 0 0):=by
   by_cases hD:D=0
   ·have:=a3 hD
    have h2:2≤2^pN (-dp1).toNat:=Nat.pow_le_pow_right (n:=2) (i:=1) (by decide) p1
    have:=Nat.mul_le_mul_left (ds1.getD 0 0-48) h2
    subst hD
    omega
   ·omega
  refine ⟨⟨ds2,q,_,tr2,x2,g2,by omega,by omega,by omega,by omega⟩,?_⟩
  rw [x2.dpIs,x2.d0Is,x1.dpIs,x1.d0Is]
  exact key
 refine JoinW1.intro (fun ex m=>∃(ds2:List Nat) (n2:Nat) (dp2:Int) (tr2:Bool),DX h0 m b ds2 n2 dp2 neg tr2∧GoodD ds2 n2∧ -100000000000000≤dp2∧dp2≤1000) ?_ ?_
 ·refine zag (ld_c (sh:=shInt .i64) (-1023:Int) c2 ?_)
  rw [zae (n:=ex-1) (by omega) (by omega),show IntKind.wrap .i64 ((-1023:Int)+1)= -1022 by decide]
  refine iteB (fun hlt=> ?_) fun _=>⟨ds1,n1,dp1,tr1,x1,g1,by omega,by omega⟩
  have hlt:ex-1< -1022:=of_decide_eq_true hlt
  refine zag (ld_c (sh:=shInt .i64) (-1023:Int) c2 ?_)
  rw [show IntKind.wrap .i64 ((-1023:Int)+1)= -1022 by decide,zae (n:=(-1022:Int)-(ex-1)) (by omega) (by omega),zae (n:=(0:Int)-_) (by omega) (by omega)]
  exact zbp (zfo1 x1 g1 (by omega) (by omega) (by omega) (by omega) fun m2 ds2 q dp2 tr2 x2 g2 b1 b2=>⟨ds2,q,dp2,tr2,x2,g2,b1,by omega⟩)
 rintro ex2 m ⟨ds1,n1,dp1,tr1,x1,g1,d0,d1⟩
 obtain ⟨c0,c1,c2⟩:=zui1 (e.hx.mono x1.le)
 refine zag (ld_c (sh:=shInt .i64) (-1023:Int) c2 (zag (ld_c (sh:=shInt .u64) (11:Int) c1 ⟨by decide,iteB (fun _=> ?_) fun _=> ?_⟩)))
 ·refine zag (ld_c (sh:=shInt .u64) (11:Int) c1 ⟨by decide,zag (ld_c (sh:=shInt .i64) (-1023:Int) c2 (zag (ld_c (sh:=shInt .u64) (52:Int) c0 ⟨by decide,zag (ld_c (sh:=shInt .i64) (-1023:Int) c2 (zag (ld_c (sh:=shInt .u64) (11:Int) c1 ⟨by decide,zag (ld_c (sh:=shInt .u64) (52:Int) c0 ⟨by decide,?_⟩)⟩)))⟩)))⟩)
  exact zca1 c0 c1 x1 (fun _ _=>zbb _ _ _) (zbb _ _ _) fun v ov hv=>hq v ov m x1.le hv
 refine zag (ld_c (sh:=shInt .u64) (52:Int) c0 ?_)
 rw [show IntKind.wrap .i64 (IntKind.wrap .u64 ((1:Int)+52))=((53:Nat):Int) by decide]
 refine zbp (zig1 e.ch x1 g1 (by decide) (by decide) (by omega) (by omega) fun m2 ds2 q D tr2 x2 g2 _ _ _=> ?_)
 obtain ⟨c0,c1,c2⟩:=zui1 (e.hx.mono x2.le)
 have hq2:∀v ov,U64 v→Q v ov m2:=fun v ov hv=>hq v ov m2 x2.le hv
 refine zhi (zre1 x2 g2.most fun r hr=> ?_)
 refine JoinW2.intro (fun _ _ k=>m2=k) ?_ ?_
 ·refine zag (ld_c (sh:=shInt .u64) (52:Int) c0 ⟨by decide,iteB (fun _=>⟨by decide,zag (ld_c (sh:=shInt .i64) (-1023:Int) c2 (zag (ld_c (sh:=shInt .u64) (11:Int) c1 ⟨by decide,iteB (fun _=> ?_) fun _=>rfl⟩)))⟩) fun _=>rfl⟩)
  refine zag (ld_c (sh:=shInt .u64) (11:Int) c1 ⟨by decide,zag (ld_c (sh:=shInt .i64) (-1023:Int) c2 (zag (ld_c (sh:=shInt .u64) (52:Int) c0 ⟨by decide,zag (ld_c (sh:=shInt .i64) (-1023:Int) c2 (zag (ld_c (sh:=shInt .u64) (11:Int) c1 ⟨by decide,zag (ld_c (sh:=shInt .u64) (52:Int) c0 ⟨by decide,?_⟩)⟩)))⟩)))⟩)
  exact zca1 c0 c1 x2 (fun _ _=>zbb _ _ _) (zbb _ _ _) hq2
 rintro ex3 mant m2 rfl
 refine JoinW1.intro (fun _ k=>m2=k) (zag (ld_c (sh:=shInt .u64) (52:Int) c0 ⟨by decide,iteB (fun _=>zag (ld_c (sh:=shInt .i64) (-1023:Int) c2 rfl)) fun _=>rfl⟩)) ?_
 rintro ex4 m2 rfl
 refine zag (ld_c (sh:=shInt .u64) (52:Int) c0 ⟨by decide,zag (ld_c (sh:=shInt .i64) (-1023:Int) c2 (zag (ld_c (sh:=shInt .u64) (11:Int) c1 ⟨by decide,zag (ld_c (sh:=shInt .u64) (52:Int) c0 ⟨by decide,?_⟩)⟩)))⟩)
 exact zca1 c0 c1 x2 (fun _ _=>zbb _ _ _) (zbb _ _ _) hq2
end
end Lf

namespace Lf
open Go Go.Proofs
section
variable {h0 h:Hp} {b:Nat} {ds:List Nat} {dp:Int} {neg tr:Bool}
theorem zbb2 {n c:Nat} (hl:ds.length=800) (g:n=0∨GoodD ds n) (hn:n<800) (hc:48≤c∧c<58) (h0:n=0→c≠48):GoodD (ds.set n c) (n+1):=by
 refine ⟨by omega,by omega,(zui (by rw [List.length_set];omega)).2 fun q hq=> ?_,?_⟩
 ·rw [zqm (by omega)]
  by_cases e:n=q
  ·rw [if_pos e];exact hc
  ·rw [if_neg e]
   have g:=g.resolve_left fun e=>by omega
   exact (zui (by omega)).1 g.digs q (by omega)
 ·rw [List.getElem?_set]
  by_cases e:n=0
  ·subst e
   rw [if_pos rfl,if_pos (by omega)]
   exact ⟨c,rfl,by have:=h0 rfl;omega,hc.2⟩
  ·rw [if_neg e]
   exact (g.resolve_left e).head
theorem zih2 {s:ByteArray} {Q:Bool→Hp→Prop} (hs:s.size<4611686018427387904) (x:DX h0 h b ds 0 dp neg tr) (hq:∀h' ds' (n:Nat) dp' neg' tr' ok,DX h0 h' b ds' n dp' neg' tr'→(n=0∨GoodD ds' n)→Q ok h'):
  zdy Tryz.prog (some ⟨b,0,none⟩) s Q h:=by
 unfold zdy
 refine zag (x.putNeg fun h x=>zag (x.putTr fun h x=> ?_))
 generalize hN:s.size=N at*
 refine iteB (fun _=>hq h ds 0 _ _ _ _ x (.inl rfl)) fun hN0=> ?_
 have hN0:¬(0:Int)≥(N:Int):=fun e=>hN0 (decide_eq_true e)
 refine ⟨⟨by decide,by omega⟩,JoinW1.intro (fun i k=>0≤i∧i≤(N:Int)∧∃neg,DX h0 k b ds ((0:Nat):Int) dp neg false) (iteB (fun _=>⟨by omega,by omega,_,x⟩) fun _=>iteB (fun _=>zag (x.putNeg fun h x=>⟨by omega,by omega,_,x⟩)) fun _=>⟨by omega,by omega,_,x⟩) ?_⟩
 clear x
 rintro i h ⟨i0,i1,neg,x⟩
 refine JoinW3.intro (fun i _ _ k=>0≤i∧i≤(N:Int)∧∃(ds:List Nat) (n:Nat) (dp:Int) (neg tr:Bool),DX h0 k b ds (n:Int) dp neg tr∧(n=0∨GoodD ds n)) ?_ ?_
 ·refine LoopW3.intro (fun i _ _ k=>0≤i∧i≤(N:Int)∧∃(ds:List Nat) (n:Nat) (dp:Int) (neg tr:Bool),DX h0 k b ds (n:Int) dp neg tr∧(n=0∨GoodD ds n)) (fun i _ _ _=>(N-i).toNat) ⟨i0,i1,ds,0,dp,neg,false,x,.inl rfl⟩ ?_
  clear x i0 i1 i
  rintro i sd sg h ⟨i0,i1,ds,n,dp,neg,tr,x,g⟩
  refine iteB (fun hi=> ?_) fun _=>⟨i0,i1,ds,n,dp,neg,tr,x,g⟩
  have hi:=of_decide_eq_true hi
  have hin:(0:Int)≤i∧i<(N:Int):=⟨i0,hi⟩
  refine JoinW2.intro (fun _ _ k=>∃(ds:List Nat) (n:Nat) (dp:Int) (neg tr:Bool),DX h0 k b ds (n:Int) dp neg tr∧(n=0∨GoodD ds n)) ?_ ?_
  ·generalize hc:UInt8.toNat (List.getD s.data.toList (Int.toNat i) 0)=c
   refine ⟨hin,iteB (fun _=>⟨ds,n,dp,neg,tr,x,g⟩) fun _=>⟨hin,iteB (fun _=>iteB (fun _=>hq h ds n _ _ _ _ x g) fun _=> ?_) fun _=>⟨hin,fun _=>hin,letW (iteB (fun hy=>⟨hin,?_⟩) fun _=>⟨i0,i1,ds,n,dp,neg,tr,x,g⟩)⟩⟩⟩
   ·exact zag (ld_c (sh:=shInt .i64) (n:Int) x.ndAt (zag (x.putDp fun h x=>⟨ds,n,_,neg,tr,x,g⟩)))
   rw [Bool.and_eq_true] at hy
   have c0:(48:Int)≤(c:Int):=of_decide_eq_true hy.1
   have c1:(c:Int)≤57:=of_decide_eq_true hy.2
   refine zag (ld_c (sh:=shInt .i64) (n:Int) x.ndAt (letW (iteB (fun _=> ?_) fun hz=> ?_)))
   ·exact zag (ld_c (sh:=shInt .i64) dp x.dpAt (zag (x.putDp fun h x=>⟨ds,n,_,neg,tr,x,g⟩)))
   have hz:n=0→c≠48:=fun e1 e2=>by subst e1;subst e2;exact hz rfl
   refine zag (ld_c (sh:=shInt .i64) (n:Int) x.ndAt ?_)
   generalize hd:decide ((n:Int)<800)=lt
   refine iteB (fun hn=> ?_) fun _=>⟨hin,iteB (fun _=>zag (x.putTr fun h x=>⟨ds,n,dp,neg,_,x,g⟩)) fun _=>⟨ds,n,dp,neg,tr,x,g⟩⟩
   rw [hn] at hd
   have hn:(n:Int)<800:=of_decide_eq_true hd
   refine zag (ld_c (sh:=shInt .i64) (n:Int) x.ndAt ⟨hin,zag ⟨⟨by omega,hn⟩,?_⟩⟩)
   rw [Int.toNat_natCast,decAt]
   refine x.putD (by omega) rfl fun h x=>zag (ld_c (sh:=shInt .i64) (n:Int) x.ndAt (zag ?_))
   rw [zae (n:=(n:Int)+1) (by omega) (by omega)]
   have hl:=x.len
   rw [List.length_set] at hl
   exact x.putNd fun h x=>⟨_,n+1,dp,neg,tr,x,.inr (zbb2 hl g (by omega) ⟨by omega,by omega⟩ hz)⟩
  rintro sd sg h ⟨ds,n,dp,neg,tr,x,g⟩
  rw [zae (n:=i+1) (by omega) (by omega)]
  exact ⟨⟨by omega,by omega,ds,n,dp,neg,tr,x,g⟩,by omega⟩
 clear x i0 i1 i
 rintro i sd sg h ⟨i0,i1,ds,n,dp,neg,tr,x,g⟩
 refine iteB (fun _=>hq h ds n _ _ _ _ x g) fun _=> ?_
 refine JoinW0.intro (fun k=>∃dp,DX h0 k b ds (n:Int) dp neg tr) (iteB (fun _=>zag (ld_c (sh:=shInt .i64) (n:Int) x.ndAt (zag (x.putDp fun h x=>⟨_,x⟩)))) fun _=>⟨_,x⟩) ?_
 clear x
 rintro h ⟨dp,x⟩
 refine ⟨fun hh=>⟨i0,of_decide_eq_true hh⟩,lowE fun r=>letW (iteB (fun hy=> ?_) fun _=>iteB (fun _=>hq h ds n _ _ _ _ x g) fun _=>hq h ds n _ _ _ _ x g)⟩
 rw [Bool.and_eq_true] at hy
 have hi:=of_decide_eq_true hy.1
 rw [zae (n:=i+1) (by omega) (by omega)]
 refine iteB (fun _=>hq h ds n _ _ _ _ x g) fun h1=> ?_
 have h1:¬i+1≥(N:Int):=fun e=>h1 (decide_eq_true e)
 refine ⟨⟨by omega,by omega⟩,JoinW2.intro (fun i3 _ k=>k=h∧0≤i3∧i3≤(N:Int)) ?_ ?_⟩
 ·rw [zae (n:=i+1+1) (by omega) (by omega)]
  exact iteB (fun _=>⟨rfl,by omega,by omega⟩) fun _=>iteB (fun _=>⟨rfl,by omega,by omega⟩) fun _=>⟨rfl,by omega,by omega⟩
 rintro i3 es h ⟨rfl,j0,j1⟩
 refine ⟨fun hh=>⟨j0,?_⟩,letW ⟨fun hh=>⟨j0,?_⟩,letW (iteB (fun _=>hq h ds n _ _ _ _ x g) fun hy2=> ?_)⟩⟩
 ·have:¬i3≥(N:Int):=fun e=>by rw [decide_eq_true e] at hh;cases hh
  omega
 ·have:¬i3≥(N:Int):=fun e=>by rw [decide_eq_true e,Bool.true_or] at hh;cases hh
  omega
 refine LoopW2.intro (fun i4 _ k=>k=h∧0≤i4∧i4≤(N:Int)) (fun i4 _ _=>(N-i4).toNat) ⟨rfl,j0,j1⟩ ?_
 rintro i4 e4 h ⟨rfl,k0,k1⟩
 refine ⟨fun hh=>⟨k0,of_decide_eq_true hh⟩,fun hh=>⟨k0,by rw [Bool.and_eq_true] at hh;exact of_decide_eq_true hh.1⟩,letW ⟨fun hh=>⟨k0,by rw [Bool.and_eq_true] at hh;exact of_decide_eq_true hh.1⟩,letW (letW (iteB (fun hy=> ?_) fun _=> ?_))⟩⟩
 ·rw [Bool.and_eq_true] at hy
  have hi4:=of_decide_eq_true hy.1
  refine JoinW1.intro (fun _ k=>k=h) ⟨⟨k0,hi4⟩,iteB (fun _=>rfl) fun _=>iteB (fun _=>⟨⟨k0,hi4⟩,rfl⟩) fun _=>rfl⟩ ?_
  rintro e5 h rfl
  rw [zae (n:=i4+1) (by omega) (by omega)]
  exact ⟨⟨rfl,by omega,by omega⟩,by omega⟩
 ·exact zag (ld_c (sh:=shInt .i64) dp x.dpAt (zag (x.putDp fun h x=>iteB (fun _=>hq h ds n _ _ _ _ x g) fun _=>hq h ds n _ _ _ _ x g)))
end
end Lf

namespace Lf
open Go Go.Proofs
structure AEnv (h:Hp):Prop where
 fe:FEnv h
 se:SEnv h
theorem AEnv.mono {h h':Hp} (e:AEnv h) (hl:h≤h'):AEnv h':=⟨e.fe.mono hl,e.se.mono hl⟩
abbrev ErK (er:Leaf):Prop:=er.v=.nilIface∨∃k:Int,(k=1∨k=2)∧er.v=.iface 122 (.int .i64 k)
theorem ErOk.k {er:Leaf} (h:ErOk er):ErK er:=h.imp id fun e=>⟨1,.inl rfl,e⟩
def leafN :Leaf:=⟨.nilIface,rfl⟩
def leafE (k:Int):Leaf:=⟨.iface 122 (.int .i64 k),rfl⟩
theorem zzp :ErK leafN:=.inl rfl
theorem ztm {k:Int} (h:k=1∨k=2):ErK (leafE k):=.inr ⟨k,h,rfl⟩
section
variable {h:Hp}
theorem encN {K:Leaf→Prop} (hk:K leafN):EncW zah .nilIface K:=⟨leafN,rfl,hk⟩
theorem encE {k:Int} {K:Leaf→Prop} (hk:K (leafE k)):EncW zah (.iface 122 (.int .i64 k)) K:=⟨leafE k,rfl,hk⟩
theorem encL {er:Leaf} {K:Leaf→Prop} (hk:K er):EncW zah er.v K:=⟨er,rfl,hk⟩
theorem zep2 {s:ByteArray} {n:Int} {er:Leaf} {Q:Nat→Int→Leaf→Hp→Prop} (e:AEnv h) (hs:s.size<4611686018427387904) (n0:0≤n) (n1:n≤(s.size:Int)) (hq:∀(f:Nat) (er2:Leaf) h',h≤h'→(ErK er2∨er2=er)→Q f n er2 h') {b:Nat} {ty:_}
  {cs:List Value} (hcs:cs=DecC (List.replicate 800 0) 0 0 false false) (hb:h b=none):
  (((0:Int)≤n∧n≤(((ByteArray.size s):Nat):Int))∧CallT Tryz.prog zdu [(.pointer (some ⟨b,0,none⟩)),(.string (ByteArray.extract s 0 (Int.toNat n)))] zad (fun r10 h5=>
   (if (!r10)=true then
   EncW zah (.iface 122 (.int .i64 (2:Int))) fun e=>
   Q 0 n e h5
   else
   Call2 Tryz.prog zbk [(.pointer (some ⟨b,0,none⟩)),(.pointer (some ⟨7,0,none⟩))] (shInt .u64) zad (fun r11 r12 h6=>
   SemE Tryz.prog (Extern.MathFloatBits.float64frombits #[(.int .u64 r11)]) (shFlt .f64) (fun r13 h7=>
   (if r12=true then
   EncW zah (.iface 122 (.int .i64 (1:Int))) fun e=>
   Q r13 n e h7
   else
   EncW zah er.v fun e=>
   Q r13 n e h7)) h6) h5)) (h.set b (.cells cs.toArray ty (0,0)))):=by
 have hle:=ziv (o:=.cells cs.toArray ty (0,0)) hb
 have x:DX h (h.set b (.cells cs.toArray ty (0,0))) b (List.replicate 800 0) 0 0 false false:=⟨hle,hb,List.length_replicate,ty,by rw [←hcs];exact zec⟩
 generalize h.set b (.cells cs.toArray ty (0,0))=k at*
 refine ⟨⟨n0,n1⟩,zmk (zih2 (by rw [ByteArray.size_extract];omega) x fun k2 ds m dp neg tr ok x2 g=> ?_)⟩
 refine iteB (fun _=>encE (hq _ _ _ x2.le (.inl (ztm (.inr rfl))))) fun _=> ?_
 refine zjf (zks1 (e.se) x2 g fun v ov k3 hle3 hv=> ?_)
 obtain ⟨v,rfl,hv⟩:=hv
 exact zgo rfl hv (iteB (fun _=>encE (hq _ _ _ hle3 (.inl (ztm (.inl rfl))))) fun _=>encL (hq _ _ _ hle3 (.inr rfl)))
end
end Lf

namespace Lf
open Go Go.Proofs
section
variable {h:Hp}
theorem zbc2 (neg:Bool):shlI .u64 (if neg then (1:Int) else 0) (63:Int)=((sgn neg:Nat):Int)∧sgn neg<18446744073709551616:=by cases neg<;>decide
theorem zkt1 {neg:Bool} {Q:Int→Hp→Prop} (hq:Q (if neg then 1 else 0) h):zbi Tryz.prog neg Q h:=by
 unfold zbi
 cases neg
 ·exact iteF (by decide) hq
 ·exact iteT rfl hq
set_option maxRecDepth 200000 in
theorem zwp1 {s:ByteArray} {Q:Nat→Int→Leaf→Hp→Prop} (e:AEnv h) (hs:s.size<4611686018427387904) (hq:∀(f:Nat) (n:Int) (er:Leaf) h',h≤h'→ErK er→Q f n er h'):
  zal Tryz.prog s Q h:=by
 have here:∀(f:Nat) (n:Int) (er:Leaf),ErK er→Q f n er h:=fun f n er k=>hq f n er h (Hp.le_refl h) k
 unfold zal
 refine zcl (zrb1 hs fun f n ok=>iteB (fun _=>encN (here _ _ _ zzp)) fun _=> ?_)
 refine zdr (zkr1 hs fun m p neg tr hex i ok hm hi=> ?_)
 refine iteB (fun _=>encE (here _ _ _ (ztm (.inr rfl)))) fun hok=> ?_
 have hok:ok=true:=by cases ok;exact absurd rfl hok;rfl
 obtain ⟨i0,i1⟩:=hi hok
 refine iteB (fun _=>⟨⟨i0,i1⟩,zpg (zig2 e.se.hx hm fun f er k=>encL (here _ _ _ k.k))⟩) fun _=> ?_
 refine JoinW2.intro (fun n er k=>h≤k∧0≤n∧n≤(s.size:Int)∧ErK er) ?_ ?_
 ·refine ld_at (sh:=zad) true e.fe.opt (iteT rfl (zao (zkt1 ⟨by decide,?_⟩)))
  obtain ⟨es,hsg⟩:=zbc2 neg
  rw [es]
  have hz:U64 (bitsI .or .u64 ((sgn neg:Nat):Int) (0:Int)):=zbb _ _ _
  have hy:U64 (bitsI .or .u64 ((sgn neg:Nat):Int) (9218868437227405312:Int)):=zbb _ _ _
  obtain ⟨z,ez,hz⟩:=hz
  obtain ⟨y,ey,hy⟩:=hy
  refine iteB (fun _=>zgo ez hz (encN (here _ _ _ zzp))) fun hm0=> ?_
  refine iteB (fun _=>zgo ey hy (encE (here _ _ _ (ztm (.inl rfl))))) fun hp1=> ?_
  have hp1:¬p>310:=fun e=>hp1 (decide_eq_true e)
  refine iteB (fun _=>zgo ez hz (encN (here _ _ _ zzp))) fun hp0=> ?_
  have hp0:¬p< -345:=fun e=>hp0 (decide_eq_true e)
  have hm0:0<m:=Nat.pos_of_ne_zero fun e=>hm0 (by rw [e];rfl)
  refine JoinW2.intro (fun n er k=>h≤k∧n=i∧ErK er) ?_ ?_
  ·refine iteB (fun _=>zfz (zug1 (r:=0) e.fe hm0 hm (by omega) (by omega) fun f ok _=>iteB (fun _=>encN (here _ _ _ zzp)) fun _=>encN ⟨Hp.le_refl h,rfl,zzp⟩)) fun _=>encN ⟨Hp.le_refl h,rfl,zzp⟩
  rintro _ er k ⟨hk,rfl,ker⟩
  refine zda (zfk1 (e.mono hk).fe.pow hm hsg (by omega) (by omega) fun f1 er1 k1 hk1 ok1=> ?_)
  have l1:=Hp.le_trans hk hk1
  refine iteB (fun _=>encL (hq _ _ _ _ l1 ok1.k)) fun _=> ?_
  obtain ⟨m2,em2,hm2⟩:=zql ((m:Int)+1)
  rw [em2]
  refine zda (zfk1 (e.mono l1).fe.pow hm2 hsg (by omega) (by omega) fun f2 er2 k2 hk2 ok2=> ?_)
  have l2:=Hp.le_trans l1 hk2
  exact zgd2 (sh:=zad) (v:=f64.format.order f1 f2==some .eq) rfl (iteB (fun _=>encL (hq _ _ _ _ l2 ok1.k)) fun _=>encL ⟨l2,i0,i1,ker⟩)
 rintro n er k ⟨hk,n0,n1,ker⟩
 intro b ty hb
 refine zep2 (e.mono hk) hs n0 n1 (fun f er2 k2 hk2 he=>hq _ _ _ _ (Hp.le_trans hk hk2) (he.elim id fun e=>e▸ker)) rfl hb
end
end Lf

namespace Lf
open Go Go.Proofs
section
variable {h:Hp}
theorem zwq1 {r:Nat} {neg:Bool} {out:List Nat} {Q:Nat→Int→Leaf→Hp→Prop} (e:AEnv h) (h1:0<r) (h2:r<9218868437227405312) (ht:TextF r neg out) (hk:∀(er:Leaf) h',h≤h'→er.v=.nilIface→Q (sgn neg+r) (out.length:Int) er h'):
  zal Tryz.prog (strN out) Q h:=by
 obtain ⟨c,ds,eneg,xs,v,s,rfl,hc,hds,hl,hxs,x1,x2,ev,es,hv,hv57,s0,s1,he⟩:=zrh h1 h2 ht
 have hin:inF r (v*unitW 0 s)=true:=by rw [he];exact zfd1 h1 h2
 have hv0:0<v:=Nat.pos_of_ne_zero fun e=>hv (by rw [e])
 unfold zal
 refine zcl (zid1 (by omega) (iteF (by decide) ?_))
 refine zdr (znl1 hc hds hl hxs x1 (by omega) (iteF (by decide) (iteF (by decide) (JoinW2.direct ?_))))
 rw [ev,es]
 refine ld_at (sh:=zad) true e.fe.opt (iteT rfl (zao (zkt1 ⟨by decide,?_⟩)))
 obtain ⟨ess,hsg⟩:=zbc2 neg
 rw [ess]
 refine iteF (fun hh=>by have:((v:Nat):Int)=0:=beq_iff_eq.1 hh;omega) ?_
 refine iteF (fun hh=>by have:s>310:=of_decide_eq_true hh;omega) (iteF (fun hh=>by have:s< -345:=of_decide_eq_true hh;omega) ?_)
 refine JoinW2.intro (fun n er k=>k=h∧n=((fltL neg c ds eneg xs).length:Int)) ?_ ?_
 ·refine iteT (by decide) (zfz (zug1 (r:=r) e.fe hv0 (by omega) (by omega) (by omega) fun f ok hf=>iteB (fun hok=>encN ?_) fun _=>encN ⟨rfl,rfl⟩))
  have:=hf h1 h2 hin hok
  subst this
  exact hk _ h (Hp.le_refl h) rfl
 rintro _ er k ⟨rfl,rfl⟩
 exact zda (zwo1 e.fe.pow h1 h2 hv57 hv0 (by omega) (by omega) hin fun er k1 hk1 her=>iteT (by decide) (encL (hk _ _ hk1 her)))
end
end Lf

namespace Lf
open Go Go.Proofs
section
variable {h:Hp}
def zeroL (neg:Bool):List Nat:=(if neg then [45] else [])++ [48,101,48]
def infL (neg:Bool):List Nat:=(if neg then [45] else [])++ [105,110,102]
theorem zgq1 {neg:Bool} {Q:Int→Int→Bool→Bool→Bool→Int→Bool→Hp→Prop} (hq:Q 0 0 neg false false ((zeroL neg).length:Int) true h):zaw Tryz.prog (strN (zeroL neg)) Q h:=by
 unfold zaw
 refine iteF (by cases neg<;>decide) ⟨by cases neg<;>decide,?_⟩
 refine JoinW2.intro (fun n i k=>k=h∧neg=n∧i=((sgnN neg:Nat):Int)) ?_ ?_
 ·cases neg with
  | true=>exact iteF (by decide) (iteT (by decide) ⟨rfl,rfl,rfl⟩)
  | false=>exact iteF (by decide) (iteF (by decide) ⟨rfl,rfl,rfl⟩)
 rintro _ _ h ⟨rfl,rfl,rfl⟩
 refine JoinW5.intro (fun hx i b m e k=>k=h∧hx=false∧i=((sgnN neg:Nat):Int)∧b=10∧m=19∧e=101) ?_ ?_
 ·refine ⟨fun _=>by cases neg<;>decide,letW ⟨fun _=>by cases neg<;>decide,?_⟩⟩
  refine ⟨fun _=>zat (zsf (letW (iteF ?_ ⟨rfl,rfl,rfl,rfl,rfl,rfl⟩))),fun _=>⟨(0:Int),letW (iteF ?_ ⟨rfl,rfl,rfl,rfl,rfl,rfl⟩)⟩⟩
  ·cases neg<;>decide
  ·cases neg<;>decide
 rintro _ _ _ _ _ h ⟨rfl,rfl,rfl,rfl,rfl,rfl⟩
 refine JoinW9.intro (fun m tr i us sd sg nd ndm dp k=>k=h∧m=0∧tr=false∧i=((sgnN neg+1:Nat):Int)∧us=false∧sd=false∧sg=true∧nd=0∧ndm=0) ?_ ?_
 ·refine LoopW9.intro (fun m tr i us sd sg nd ndm dp k=>k=h∧m=0∧tr=false∧us=false∧sd=false∧nd=0∧ndm=0∧((sg=false∧i=((sgnN neg:Nat):Int)∧dp=0)∨(sg=true∧i=((sgnN neg+1:Nat):Int))))
   (fun _ _ i _ _ _ _ _ _ _=>(4-i).toNat) ⟨rfl,rfl,rfl,rfl,rfl,rfl,rfl,.inl ⟨rfl,rfl,rfl⟩⟩ ?_
  rintro _ _ _ _ _ _ _ _ _ h ⟨rfl,rfl,rfl,rfl,rfl,rfl,rfl,(⟨rfl,rfl,rfl⟩ | ⟨rfl,rfl⟩)⟩
  ·refine iteT (by cases neg<;>decide) (JoinW8.direct ⟨by cases neg<;>decide,iteF (by cases neg<;>decide) (iteF (by cases neg<;>decide) (letW (iteT (by cases neg<;>decide) (letW (iteT (by cases neg<;>decide) ⟨⟨rfl,rfl,rfl,rfl,rfl,rfl,rfl,.inr ⟨rfl,?_⟩⟩,?_⟩)))))⟩)
   ·cases neg<;>decide
   ·cases neg<;>decide
  ·refine iteT (by cases neg<;>decide) (JoinW8.direct ⟨by cases neg<;>decide,iteF (by cases neg<;>decide) (iteF (by cases neg<;>decide) (letW (iteF (by cases neg<;>decide) ?_)))⟩)
   exact effF (by cases neg<;>decide) (0:Int) (letW (effF (by cases neg<;>decide) (0:Int) (letW (iteF (by cases neg<;>decide) ⟨rfl,rfl,rfl,rfl,rfl,rfl,rfl,rfl,rfl⟩))))
 rintro _ _ _ _ _ _ _ _ dp h ⟨rfl,rfl,rfl,rfl,rfl,rfl,rfl,rfl,rfl⟩
 refine iteF (by decide) (JoinW1.direct (iteT (by decide) (JoinW2.direct (iteF (by decide) ?_))))
 refine JoinW3.intro (fun i us dp k=>k=h∧i=((zeroL neg).length:Int)∧us=false) ?_ ?_
 ·refine ⟨fun _=>by cases neg<;>decide,⟨fun _=>zat (zsf ?_),fun hh=>absurd hh (by cases neg<;>decide)⟩⟩
  refine letW (iteT (by cases neg<;>decide) (iteF (by cases neg<;>decide) ⟨by cases neg<;>decide,JoinW2.intro (fun i e k=>k=h∧i=((sgnN neg+2:Nat):Int)) (iteF (by cases neg<;>decide) (iteF (by cases neg<;>decide) ⟨rfl,by cases neg<;>decide⟩)) ?_⟩))
  rintro _ es h ⟨rfl,rfl⟩
  refine ⟨fun _=>by cases neg<;>decide,letW ⟨fun _=>by cases neg<;>decide,letW (iteF (by cases neg<;>decide) ?_)⟩⟩
  refine LoopW3.intro (fun i us e k=>k=h∧us=false∧(i=((sgnN neg+2:Nat):Int)∨i=((zeroL neg).length:Int))) (fun i _ _ _=>(4-i).toNat) ⟨rfl,rfl,.inl rfl⟩ ?_
  rintro _ _ ex h ⟨rfl,rfl,(rfl | rfl)⟩
  ·refine ⟨fun _=>by cases neg<;>decide,fun _=>by cases neg<;>decide,letW ⟨fun _=>by cases neg<;>decide,letW (letW (iteT (by cases neg<;>decide) ?_))⟩⟩
   refine JoinW2.intro (fun us _ k=>k=h∧us=false) ⟨by cases neg<;>decide,iteF (by cases neg<;>decide) (iteB (fun _=>⟨by cases neg<;>decide,rfl,rfl⟩) fun _=>⟨rfl,rfl⟩)⟩ ?_
   rintro _ e5 h ⟨rfl,rfl⟩
   exact ⟨⟨rfl,rfl,.inr (by cases neg<;>decide)⟩,by cases neg<;>decide⟩
  ·refine ⟨fun hh=>absurd hh (by cases neg<;>decide),fun hh=>absurd hh (by cases neg<;>decide),letW ⟨fun hh=>absurd hh (by cases neg<;>decide),letW (letW (iteF (by cases neg<;>decide) ⟨rfl,rfl,rfl⟩))⟩⟩
 rintro _ _ dp3 h ⟨rfl,rfl,rfl⟩
 exact JoinW1.direct (iteF (by decide) ⟨fun hh=>(by cases hh),effF rfl true (letW (iteF (by decide) hq))⟩)
theorem znp1 {neg:Bool} {Q:Nat→Int→Bool→Hp→Prop} (hq:Q 0 0 false h):zay Tryz.prog (strN (zeroL neg)) Q h:=
 zid1 (neg:=neg) (c:=48) (ds:=[]) (eneg:=false) (xs:=[48]) (by decide) hq
theorem zrf1 {neg:Bool} {Q:Nat→Int→Leaf→Hp→Prop} (e:AEnv h) (hk:∀(er:Leaf) h',h≤h'→er.v=.nilIface→Q (sgn neg) ((zeroL neg).length:Int) er h'):zal Tryz.prog (strN (zeroL neg)) Q h:=by
 unfold zal
 refine zcl (znp1 (iteF (by decide) ?_))
 refine zdr (zgq1 (iteF (by decide) (iteF (by decide) (JoinW2.direct ?_))))
 refine ld_at (sh:=zad) true e.fe.opt (iteT rfl (zao (zkt1 ⟨by decide,?_⟩)))
 refine iteT (by decide) (zgo (n:=sgn neg) (by cases neg<;>decide) (by cases neg<;>decide) (encN (hk _ h (Hp.le_refl h) rfl)))
theorem zwr1 {Q:Int→Hp→Prop} (hq:Q 3 h):zaj Tryz.prog (strN [105,110,102]) ⟨#[105,110,102,105,110,105,116,121]⟩ Q h:=by
 unfold zaj
 refine LoopW1.intro (fun i k=>k=h∧(i=0∨i=1∨i=2∨i=3)) (fun i _=>(3-i).toNat) ⟨rfl,.inl rfl⟩ ?_
 rintro _ h ⟨rfl,(rfl | rfl | rfl | rfl)⟩
 ·exact iteT (by decide) ⟨by decide,JoinW1.direct (letW (iteF (by decide) ⟨by decide,iteF (by decide) ⟨⟨rfl,.inr (.inl (by decide))⟩,by decide⟩⟩))⟩
 ·exact iteT (by decide) ⟨by decide,JoinW1.direct (letW (iteF (by decide) ⟨by decide,iteF (by decide) ⟨⟨rfl,.inr (.inr (.inl (by decide)))⟩,by decide⟩⟩))⟩
 ·exact iteT (by decide) ⟨by decide,JoinW1.direct (letW (iteF (by decide) ⟨by decide,iteF (by decide) ⟨⟨rfl,.inr (.inr (.inr (by decide)))⟩,by decide⟩⟩))⟩
 ·exact iteF (by decide) hq
theorem zws1 {neg:Bool} {Q:Nat→Int→Leaf→Hp→Prop} (hk:∀(er:Leaf) h',h≤h'→er.v=.nilIface→Q (sgn neg+9218868437227405312) ((infL neg).length:Int) er h'):zal Tryz.prog (strN (infL neg)) Q h:=by
 unfold zal
 refine zcl ?_
 unfold zay
 refine iteF (by cases neg<;>decide) ⟨by cases neg<;>decide,?_⟩
 refine JoinW3.intro (fun s sg ns k=>k=h∧s=strN [105,110,102]∧sg=(if neg then -1 else 1)∧ns=(if neg then 1 else 0)) ?_ ?_
 ·cases neg with
  | true=>exact JoinW1.direct (iteF (by decide) (iteT (by decide) (JoinW1.direct ⟨by decide,iteT (by decide) ⟨by decide,rfl,rfl,rfl,rfl⟩⟩)))
  | false=>exact JoinW1.direct (iteF (by decide) (iteF (by decide) (JoinW1.direct (iteT (by decide) (iteT (by decide) ⟨rfl,rfl,rfl,rfl⟩)))))
 rintro _ _ _ h ⟨rfl,rfl,rfl,rfl⟩
 refine zas (zwr1 (JoinW1.direct (letW (iteF (by decide) (letW (iteT (by decide) (zki ?_)))))))
 unfold zig
 cases neg with
 | true=>exact JoinW1.direct (iteF (by decide) (zgo (n:=18442240474082181120) rfl (by decide) (iteT (by decide) (encN (hk _ h (Hp.le_refl h) rfl)))))
 | false=>exact JoinW1.direct (iteT (by decide) (zgo (n:=9218868437227405312) rfl (by decide) (iteT (by decide) (encN (hk _ h (Hp.le_refl h) rfl)))))
end
end Lf

namespace Lf
open Go Go.Proofs Go.RowKit
structure EEnv (h:Hp):Prop where
 syn:∃te pe,LdIs h ⟨3,0,none⟩ [.iface te pe]
 rng:∃te pe,LdIs h ⟨4,0,none⟩ [.iface te pe]
theorem EEnv.mono {h h':Hp} (e:EEnv h) (hl:h≤h'):EEnv h':=by
 obtain ⟨⟨a,b,e1⟩,⟨c,d,e2⟩⟩:=e
 exact ⟨⟨a,b,zbd hl e1⟩,⟨c,d,zbd hl e2⟩⟩
section
variable {h:Hp}
theorem zih1 {fn s:ByteArray} {base bits k:Int} {K:Leaf→Hp→Prop} (e:EEnv h) (hs:s.size≤281474976710656) (h12:k=1∨k=2) (hk:∀er,K er h):
  CallT Tryz.prog zcp [.string fn,.string s,.int .i64 base,.int .i64 bits,.iface 122 (.int .i64 k)] zah K h:=by
 intro w hw
 rcases h12 with rfl | rfl
 ·obtain ⟨te,pe,hl⟩:=e.rng
  refine (Tryz.strconv_toError_range fn s base bits (.iface te pe) w hs (zfu hw (hl 0 _ rfl)) (.inr ⟨te,pe,rfl⟩)).mono ?_
  rintro e w' ⟨N,rfl,_,_,hb⟩
  exact ⟨_,h,rfl,⟨⟨.iface 125 (.pointer (some ⟨N,0,none⟩)),rfl⟩,rfl,hk _⟩,⟨fun i o e=>by rw [hb.block i (hw.lt e)];exact hw i o e,hb.size,fun i hi hn=>⟨hb.block i hi,hn⟩,hb.os,hb.tape,hb.output⟩⟩
 ·obtain ⟨te,pe,hl⟩:=e.syn
  refine (Tryz.strconv_toError_syntax fn s base bits (.iface te pe) w hs (zfu hw (hl 0 _ rfl)) (.inr ⟨te,pe,rfl⟩)).mono ?_
  rintro e w' ⟨N,rfl,_,_,hb⟩
  exact ⟨_,h,rfl,⟨⟨.iface 125 (.pointer (some ⟨N,0,none⟩)),rfl⟩,rfl,hk _⟩,⟨fun i o e=>by rw [hb.block i (hw.lt e)];exact hw i o e,hb.size,fun i hi hn=>⟨hb.block i hi,hn⟩,hb.os,hb.tape,hb.output⟩⟩
end
end Lf

namespace Lf
open Go Go.Proofs
section
variable {h:Hp}
theorem zgr1 {s:ByteArray} {Q:Nat→Leaf→Hp→Prop} (e:AEnv h) (ee:EEnv h) (hs:s.size≤281474976710656) (hq:∀(f:Nat) (er:Leaf) h',h≤h'→Q f er h'):zel Tryz.prog s (64:Int) Q h:=by
 unfold zel
 have fin:∀(f:Nat) (er:Leaf) (h1:Hp),h≤h1→ErK er→((isIfV er.v)=true∧(if (!(zcd er.v))=true then
   CallT Tryz.prog zcp [(.string ⟨#[80,97,114,115,101,70,108,111,97,116]⟩),(.string s),(.int .i64 (0:Int)),(.int .i64 (64:Int)),er.v] zah (fun r2 h2=>EncW zah r2.v fun e=>Q f e h2) h1
   else EncW zah .nilIface fun e=>Q f e h1)):=by
  rintro f er h1 hl (he | ⟨k,hk,he⟩)
  ·rw [he]
   exact ⟨rfl,iteF (by decide) (encN (hq _ _ _ hl))⟩
  ·rw [he]
   exact ⟨rfl,iteT rfl (zih1 (ee.mono hl) hs hk fun er=>encL (hq _ _ _ hl))⟩
 refine zgl ?_
 unfold zeg
 refine zee ?_
 unfold zcn
 refine iteF (by decide) (zio (zwp1 e (by omega) fun f n er h1 hl he=>encL ?_))
 exact iteB (fun _=>encE (fin _ _ _ hl (ztm (.inr rfl)))) fun _=>encL (fin _ _ _ hl he)
theorem zgs1 {s:ByteArray} {f:Nat} {Q:Nat→Leaf→Hp→Prop} (ha:∀ {Q':Nat→Int→Leaf→Hp→Prop},(∀(er:Leaf) h',h≤h'→er.v=.nilIface→Q' f (s.size:Int) er h')→zal Tryz.prog s Q' h)
  (hk:∀(er:Leaf) h',h≤h'→Q f er h'):zel Tryz.prog s (64:Int) Q h:=by
 unfold zel
 refine zgl ?_
 unfold zeg
 refine zee ?_
 unfold zcn
 refine iteF (by decide) (zio (ha fun er h1 hl he=>encL (iteF (fun hh=>bne_iff_ne.1 hh rfl) (encL ?_))))
 dsimp only
 rw [he]
 exact ⟨rfl,iteF (by decide) (encN (hk _ _ hl))⟩
def TxtAt (h:Hp) (b:Nat) (s:ByteArray):Prop:=∀i,i<s.size→hcell h ⟨b,i,none⟩=some (.int .u8 (((UInt8.toNat (List.getD s.data.toList i 0)):Nat):Int))
theorem zbd2 {s:ByteArray} {b:Nat} {t:_} {m:_} {zs:List Value}:TxtAt (h.set b (.cells (zek s++zs).toArray t m)) b s:=fun i hi=>by
 have hl:s.data.toList.length=s.size:=by rw [Array.length_toList];rfl
 unfold hcell
 rw [zec]
 simp [zek,List.getElem?_append_left,hl,hi,List.getD]
theorem zuj1 {s:ByteArray} {b:Nat} {i:Int} {K:Int→Prop} (r:TxtAt h b s) (h0:0≤i) (h1:i<(s.size:Int)) (hk:K (((UInt8.toNat (List.getD s.data.toList (Int.toNat i) 0)):Nat):Int)):
  InB (some ⟨b,0,none⟩) s.size i∧LdW none (shInt .u8) h (sat (some ⟨b,0,none⟩) 1 i) K:=by
 refine ⟨⟨by simp,h0,h1⟩,ld_c (sh:=shInt .u8) _ (zsd ?_) hk⟩
 unfold sat
 rw [Option.getD_some,box_add,Nat.zero_add,Nat.mul_one]
 exact r i.toNat (by omega)
theorem zku1 {s:ByteArray} {Q:Int→Leaf→Hp→Prop} (hs:s.size<4611686018427387904) (hq:∀(n:Int) (er:Leaf) h',h≤h'→U64 n→ErK er→Q n er h'):zbu Tryz.prog s (16:Int) (64:Int) Q h:=by
 unfold zbu
 have z:U64 0:=⟨0,rfl,by decide⟩
 refine iteB (fun _=>encE (hq _ _ h (Hp.le_refl h) z (ztm (.inr rfl)))) fun _=> ?_
 refine JoinW2.direct (letW (iteT (by decide) (JoinW1.direct (iteF (by decide) (letW (iteF (by decide) (JoinW1.direct (iteF (by decide) (iteT (by decide) ⟨by decide,?_⟩)))))))))
 intro c b t hc hb
 have hle:=ziv (o:=.cells (zek s++zbm [.int .u8 0] (c-s.size)).toArray t (c,c+1)) hb
 have tx:TxtAt (h.set b (.cells (zek s++zbm [.int .u8 0] (c-s.size)).toArray t (c,c+1))) b s:=zbd2
 generalize h.set b (.cells (zek s++zbm [.int .u8 0] (c-s.size)).toArray t (c,c+1))=H at*
 refine LoopW3.intro (fun us n i k=>k=H∧us=false∧U64 n∧0≤i) (fun _ _ i _=>(s.size-i).toNat) ⟨rfl,rfl,z,by decide⟩ ?_
 rintro _ n i H ⟨rfl,rfl,hn,i0⟩
 refine iteB (fun hi=> ?_) fun _=>effF rfl true (letW (iteF (by decide) (encN (hq _ _ _ hle hn zzp))))
 have hi:i<(s.size:Int):=of_decide_eq_true hi
 refine JoinW2.intro (fun us n k=>k=H∧us=false∧U64 n) (zuj1 tx i0 hi ?_) ?_
 ·generalize (((UInt8.toNat (List.getD s.data.toList (Int.toNat i) 0)):Nat):Int)=x
  refine JoinW2.intro (fun us _ k=>k=H∧us=false) (letW (iteF ?_ (letW (iteB (fun _=>⟨rfl,rfl⟩) fun _=>lowC fun r1=>lowE fun r2=>letW (iteB (fun _=>lowC fun r3=>⟨rfl,rfl⟩) fun _=>encE (hq _ _ _ hle z (ztm (.inr rfl)))))))) ?_
  ·rw [Bool.and_eq_true]
   rintro ⟨_,e⟩
   exact absurd e (by decide)
  rintro _ d k ⟨rfl,rfl⟩
  exact iteB (fun _=>encE (hq _ _ _ hle z (ztm (.inr rfl)))) fun _=>iteB (fun _=>encE (hq _ _ _ hle (zql _) (ztm (.inl rfl)))) fun _=>letW (iteB (fun _=>encE (hq _ _ _ hle (zql _) (ztm (.inl rfl)))) fun _=>⟨rfl,rfl,zql _⟩)
 rintro _ n k ⟨rfl,rfl,hn⟩
 rw [zae (n:=i+1) (by omega) (by omega)]
 exact ⟨⟨rfl,rfl,hn,by omega⟩,by omega⟩
theorem hexF :∀d,d<16→hexD d<256∧((hexD d<58→48≤hexD d∧IntKind.wrap .u8 ((hexD d:Int)-48)=(d:Int))∧(¬hexD d<58→bitsI .or .u8 (hexD d:Int) 32=(hexD d:Int)∧97≤hexD d∧hexD d≤122∧IntKind.wrap .u8 (IntKind.wrap .u8 ((hexD d:Int)-97)+10)=(d:Int))):=by decide
theorem zkv1 {w:Nat} {Q:Int→Leaf→Hp→Prop} (hw:w<18446744073709551616) (hq:∀(er:Leaf) h',h≤h'→er.v=.nilIface→Q (w:Int) er h'):zbu Tryz.prog (strN (hexL w)) (16:Int) (64:Int) Q h:=by
 unfold zbu
 have hlen:=zvo w
 have hat:=fun {i:Nat} (hi:i<16)=>zko1 (n:=w) hi
 have hsz:(strN (hexL w)).size=16:=by rw [zbv];exact hlen
 have hch:∀ {i:Nat},i<16→UInt8.toNat (List.getD (strN (hexL w)).data.toList i 0)=hexD (w / 16^(15-i)%16):=fun {i} hi=>zqk (hat hi) (hexF _ (Nat.mod_lt _ (by decide))).1
 generalize strN (hexL w)=S at*
 refine iteF (zuc1 fun e=>by rw [e] at hsz;cases hsz) ?_
 refine JoinW2.direct (letW (iteT (by decide) (JoinW1.direct (iteF (by decide) (letW (iteF (by decide) (JoinW1.direct (iteF (by decide) (iteT (by decide) ⟨by decide,?_⟩)))))))))
 intro c b t hc hb
 have hle:=ziv (o:=.cells (zek S++zbm [.int .u8 0] (c-S.size)).toArray t (c,c+1)) hb
 have tx:TxtAt (h.set b (.cells (zek S++zbm [.int .u8 0] (c-S.size)).toArray t (c,c+1))) b S:=zbd2
 generalize h.set b (.cells (zek S++zbm [.int .u8 0] (c-S.size)).toArray t (c,c+1))=H at*
 refine LoopW3.intro (fun us n i k=>k=H∧us=false∧∃j:Nat,j≤16∧i=(j:Int)∧n=((w / 16^(16-j):Nat):Int)) (fun _ _ i _=>(16-i).toNat) ⟨rfl,rfl,0,by omega,rfl,by rw [Nat.div_eq_of_lt (by exact hw)];rfl⟩ ?_
 rintro _ _ _ H ⟨rfl,rfl,j,hj,rfl,rfl⟩
 by_cases hj16:j<16
 ·refine iteT (decide_eq_true (by show (j:Int)<(S.size:Int);omega)) ?_
  have hd:w / 16^(15-j)%16<16:=Nat.mod_lt _ (by decide)
  have hstep:w / 16^(15-j)=w / 16^(16-j)*16+w / 16^(15-j)%16:=by
   rw [show 16-j=15-j+1 by omega,Nat.pow_succ,←Nat.div_div_eq_div_mul]
   omega
  have hlt:w / 16^(15-j)<18446744073709551616:=Nat.lt_of_le_of_lt (Nat.div_le_self _ _) hw
  obtain ⟨f0,f1,f2⟩:=hexF _ hd
  have hz:=hch hj16
  generalize hd':w / 16^(15-j)%16=d at*
  generalize hm1:w / 16^(15-j)=m1 at*
  generalize hm:w / 16^(16-j)=m at*
  refine JoinW2.intro (fun us n k=>k=H∧us=false∧n=((m*16+d:Nat):Int)) (zuj1 tx (by omega) (by omega) ?_) ?_
  ·rw [Int.toNat_natCast,hz]
   refine JoinW2.intro (fun us d' k=>k=H∧us=false∧d'=(d:Int)) (letW (iteF ?_ (letW ?_))) ?_
   ·rw [Bool.and_eq_true]
    rintro ⟨_,e⟩
    exact absurd e (by decide)
   ·by_cases h58:hexD d<58
    ·obtain ⟨g1,g2⟩:=f1 h58
     refine iteT ?_ ⟨rfl,rfl,g2⟩
     rw [decide_eq_true (show (48:Int)≤((hexD d:Nat):Int) by omega),decide_eq_true (show ((hexD d:Nat):Int)≤57 by omega)];rfl
    ·obtain ⟨g1,g2,g3,g4⟩:=f2 h58
     refine iteF ?_ (zat (zsf ?_))
     ·rw [Bool.and_eq_true]
      rintro ⟨_,e⟩
      have:((hexD d:Nat):Int)≤57:=of_decide_eq_true e
      omega
     rw [g1,decide_eq_true (show (97:Int)≤(hexD d:Int) by omega)]
     refine effT (zat (zsf ?_))
     rw [g1]
     refine letW (iteT ?_ (zat (zsf ?_)))
     ·rw [decide_eq_true (show (hexD d:Int)≤122 by omega)];rfl
     ·rw [g1]
      exact ⟨rfl,rfl,g4⟩
   rintro _ _ k ⟨rfl,rfl,rfl⟩
   have w16:IntKind.wrap .u8 (16:Int)=16:=by decide
   have w64:IntKind.wrap .u64 (16:Int)=16:=by decide
   have wd:IntKind.wrap .u64 (d:Int)=(d:Int):=by rw [zan];omega
   have wm:IntKind.wrap .u64 ((m:Int)*16)=(m:Int)*16:=by rw [zan];omega
   have wt:IntKind.wrap .u64 ((m:Int)*16+(d:Int))=(m:Int)*16+(d:Int):=by rw [zan];omega
   have wx:IntKind.wrap .u64 ((shlI .u64 (1:Int) (IntKind.wrap .u64 (64:Int)))-(1:Int))=18446744073709551615:=by decide
   rw [w16,w64,wd,wm,wt,wx]
   refine iteF (fun hh=>by have:(d:Int)≥16:=of_decide_eq_true hh;omega) (iteF (fun hh=>by have:(m:Int)≥1152921504606846976:=of_decide_eq_true hh;omega) (letW (iteF (fun hh=> ?_) ⟨rfl,rfl,by omega⟩)))
   rw [Bool.or_eq_true] at hh
   rcases hh with hh | hh
   ·have:(m:Int)*16+(d:Int)<(m:Int)*16:=of_decide_eq_true hh
    omega
   ·have:(m:Int)*16+(d:Int)>18446744073709551615:=of_decide_eq_true hh
    omega
  rintro _ _ k ⟨rfl,rfl,rfl⟩
  rw [zae (n:=(j:Int)+1) (by omega) (by omega)]
  refine ⟨⟨rfl,rfl,j+1,hj16,by omega,?_⟩,by omega⟩
  rw [show 16-(j+1)=15-j by omega,hm1]
  omega
 ·refine iteF (fun hh=>hj16 (by have:(j:Int)<(S.size:Int):=of_decide_eq_true hh;omega)) (effF rfl true (letW (iteF (by decide) (encN ?_))))
  have:j=16:=by omega
  subst this
  rw [Nat.sub_self,Nat.pow_zero,Nat.div_one]
  exact hq _ _ hle rfl
end
end Lf

namespace Lf
open Go Go.Proofs
structure VEnv (h:Hp):Prop where
 pe:PEnv h
 ae:AEnv h
 ee:EEnv h
theorem VEnv.mono {h h':Hp} (e:VEnv h) (hl:h≤h'):VEnv h':=⟨e.pe.mono hl,e.ae.mono hl,e.ee.mono hl⟩
section
variable {h:Hp}
theorem zgf2 {f:Nat} {K:Int→Hp→Prop} (hk:K (f:Int) h):SemE Tryz.prog (Extern.MathFloatBits.float64bits #[(.float .f64 f)]) (shInt .u64) K h:=⟨(f:Int),rfl,hk⟩
theorem zay1 {s p:ByteArray} {Q:ByteArray→Bool→Hp→Prop} (hn:¬(p.size≤s.size∧s.extract 0 p.size=p)→Q s false h) (hy:p.size≤s.size→s.extract 0 p.size=p→Q (s.extract p.size s.size) true h):zkn Tryz.prog s p Q h:=by
 unfold zkn
 refine zku ?_
 unfold zgj
 refine zkv ?_
 unfold zgk
 refine ⟨fun hh=>⟨by omega,by have:(s.size:Int)≥(p.size:Int):=of_decide_eq_true hh;omega⟩,letW ?_⟩
 rw [Int.toNat_natCast]
 by_cases hc:p.size≤s.size∧s.extract 0 p.size=p
 ·refine iteF ?_ ⟨⟨by omega,by omega⟩,hy hc.1 hc.2⟩
  rw [decide_eq_true (show (s.size:Int)≥(p.size:Int) by omega),hc.2]
  simp
 ·refine iteT ?_ (hn hc)
  rw [Bool.not_eq_true',Bool.and_eq_false_iff]
  by_cases h1:p.size≤s.size
  ·right
   rw [Bool.eq_false_iff]
   exact zuc1 fun e=>hc ⟨h1,e⟩
  ·left
   exact decide_eq_false (show ¬(s.size:Int)≥(p.size:Int) by omega)
theorem zgt1 {s:ByteArray} {Q:Int→Leaf→Hp→Prop} (ee:EEnv h) (hs:s.size≤281474976710656) (hq:∀(n:Int) (er:Leaf) h',h≤h'→Q n er h'):zfh Tryz.prog s (16:Int) (64:Int) Q h:=by
 unfold zfh
 refine zha (zku1 (by omega) fun n er h1 hl _ he=> ?_)
 rcases he with he | ⟨k,hk,he⟩
 ·rw [he]
  exact ⟨rfl,iteF (by decide) (encN (hq _ _ _ hl))⟩
 ·rw [he]
  exact ⟨rfl,iteT rfl (zih1 (ee.mono hl) hs hk fun er=>encL (hq _ _ _ hl))⟩
theorem zgu1 {w:Nat} {Q:Int→Leaf→Hp→Prop} (hw:w<18446744073709551616) (hq:∀(er:Leaf) h',h≤h'→Q (w:Int) er h'):zfh Tryz.prog (strN (hexL w)) (16:Int) (64:Int) Q h:=by
 unfold zfh
 refine zha (zkv1 hw fun er h1 hl he=> ?_)
 rw [he]
 exact ⟨rfl,iteF (by decide) (encN (hq _ _ hl))⟩
theorem zwt1 {w:Nat} {out:List Nat} {Q:Nat→Int→Leaf→Hp→Prop} (e:AEnv h) (hw:w<18446744073709551616) (hr:¬9218868437227405312<w%9223372036854775808) (hi:zcr w out) (hk:∀(er:Leaf) h',h≤h'→er.v=.nilIface→Q w (out.length:Int) er h'):
  zal Tryz.prog (strN out) Q h:=by
 have hsg:w=sgn (negD w)+w%9223372036854775808:=by
  unfold sgn negD
  by_cases c:9223372036854775808≤w
  ·rw [decide_eq_true c,if_pos rfl];omega
  ·rw [decide_eq_false c,if_neg (by decide)];omega
 unfold zcr at hi
 rw [if_neg hr] at hi
 split at hi
 ·rename_i c2
  subst hi
  refine zws1 (neg:=negD w) fun er h1 hl he=> ?_
  rw [c2] at hsg
  rw [←hsg]
  exact hk er h1 hl he
 ·split at hi
  ·rename_i c3
   subst hi
   refine zrf1 (neg:=negD w) e fun er h1 hl he=> ?_
   rw [c3,Nat.add_zero] at hsg
   rw [←hsg]
   exact hk er h1 hl he
  ·refine zwq1 e (by omega) (by omega) hi fun er h1 hl he=> ?_
   rw [←hsg]
   exact hk er h1 hl he
theorem znq1 {w:Nat} {out:List Nat} (hr:¬9218868437227405312<w%9223372036854775808) (hi:zcr w out):∃c,out[0]? =some c∧c<110:=by
 unfold zcr at hi
 rw [if_neg hr] at hi
 split at hi
 ·subst hi
  cases negD w
  ·exact ⟨105,rfl,by decide⟩
  ·exact ⟨45,rfl,by decide⟩
 ·split at hi
  ·subst hi
   cases negD w
   ·exact ⟨48,rfl,by decide⟩
   ·exact ⟨45,rfl,by decide⟩
  ·obtain ⟨c,ds,eneg,xs,v,s,rfl,hc, -⟩:=zrh (by omega) (by omega) hi
   cases negD w
   ·exact ⟨c,rfl,by omega⟩
   ·exact ⟨45,rfl,by decide⟩
end
end Lf

namespace Lf
open Go Go.Proofs
section
variable {h:Hp}
def nanT :ByteArray:=⟨#[110,97,110,58]⟩
theorem zbe2 {t:ByteArray} (hs:nanT.size≤t.size) (he:t.extract 0 nanT.size=nanT):(t.data.toList.getD 0 0).toNat=110:=by
 have h4:4≤t.size:=hs
 have e1:(t.extract 0 nanT.size).data.toList.getD 0 0=110:=by rw [he];rfl
 rw [ByteArray.data_extract] at e1
 have e2:(t.data.extract 0 nanT.size).toList=(t.data.toList.take 4):=by simp [nanT];rfl
 rw [e2] at e1
 have e3:t.data.toList.getD 0 0=110:=by
  rw [←e1]
  cases t.data.toList<;>rfl
 rw [e3]
 rfl
theorem znr1 {t:ByteArray} {Q:Int→Int→Hp→Prop} (e:VEnv h) (hs:t.size≤281474976710656) (hk:∀h' x er,h≤h'→Said t x er→Q x er h'):zyw Tryz.prog t Q h:=by
 unfold zyw
 by_cases hT:∃w out,w<18446744073709551616∧zcr w out∧t=strN out
 ·obtain ⟨w,out,hw,hi,rfl⟩:=hT
  have fin:∀k,h≤k→CallT Tryz.prog znj [(.int .i64 (IntKind.wrap .i64 (w:Int)))] shStr (fun r2 h3=>
    (if (!((ByteArray.toList r2)==(ByteArray.toList (strN out))))=true then
    Q (0:Int) (4:Int) h3
    else
    Q (IntKind.wrap .i64 (w:Int)) (0:Int) h3)) k:=fun k hl=>
   ztg (zxj (n:=IntKind.wrap .i64 (w:Int)) (w:=w) (znm1 hw) hw (e.pe.mono hl) fun k' out' l' hi'=>by
    rw [zic1 hi' hi]
    exact iteF (by simp) (hk _ _ _ (Hp.le_trans hl l') (.inl ⟨w,out,hw,hi,rfl,rfl,rfl⟩)))
  by_cases hr:9218868437227405312<w%9223372036854775808
  ·have ho:out=[110,97,110,58]++hexL w:=by
    have:=hi
    unfold zcr at this
    rw [if_pos hr] at this
    exact this
   have hlen:(strN out).size=20:=by rw [zbv,ho,List.length_append,zvo];rfl
   have e4:(strN out).extract 0 4=nanT:=by rw [zld _ _ _ (by rw [ho,List.length_append,zvo];decide),ho];rfl
   have e5:(strN out).extract 4 (strN out).size=strN (hexL w):=by
    rw [zbv,zld _ _ _ (Nat.le_refl _),List.take_of_length_le (Nat.le_refl _),ho];rfl
   refine zfk (zay1 (p:=nanT) (fun hn=>absurd ⟨by rw [hlen];decide,e4⟩ hn) fun _ _=> ?_)
   refine JoinW1.intro (fun u k=>h≤k∧u=(w:Int)) (iteT rfl ?_) ?_
   ·rw [show (strN out).extract nanT.size (strN out).size=strN (hexL w) from e5]
    exact zng (zgu1 hw fun er h1 hl=>⟨hl,rfl⟩)
   ·rintro _ k ⟨hl,rfl⟩
    exact fin k hl
  ·obtain ⟨c,hc,c110⟩:=znq1 hr hi
   refine zfk (zay1 (p:=nanT) (fun _=> ?_) fun h1 h2=> ?_)
   ·refine JoinW1.intro (fun u k=>h≤k∧u=(w:Int)) (iteF (by decide) ?_) ?_
    ·refine zmi (zgs1 (f:=w) (fun {Q'} hq=>zwt1 e.ae hw hr hi fun er h1 hl he=> ?_) fun er h1 hl=>zgf2 ⟨hl,rfl⟩)
     have:=hq er h1 hl he
     rw [zbv] at this
     exact this
    ·rintro _ k ⟨hl,rfl⟩
     exact fin k hl
   ·have:=zbe2 h1 h2
    rw [zqk hc (by omega)] at this
    omega
 ·have hno:∀w out,w<18446744073709551616→zcr w out→t≠strN out:=fun w out hw hi ht=>hT ⟨w,out,hw,hi,ht⟩
  have fin:∀(u:Int) k,h≤k→CallT Tryz.prog znj [(.int .i64 (IntKind.wrap .i64 u))] shStr (fun r2 h3=>
    (if (!((ByteArray.toList r2)==(ByteArray.toList t)))=true then
    Q (0:Int) (4:Int) h3
    else
    Q (IntKind.wrap .i64 u) (0:Int) h3)) k:=fun u k hl=>by
   have hb:0≤IntKind.wrap .u64 (IntKind.wrap .i64 u)∧IntKind.wrap .u64 (IntKind.wrap .i64 u)<18446744073709551616:=by rw [zan];omega
   refine ztg (zxj (n:=IntKind.wrap .i64 u) (w:=(IntKind.wrap .u64 (IntKind.wrap .i64 u)).toNat) (Int.toNat_of_nonneg hb.1).symm (by omega) (e.pe.mono hl) fun k' out' l' hi'=> ?_)
   refine iteT ?_ (hk _ _ _ (Hp.le_trans hl l') (.inr ⟨hno,rfl,rfl⟩))
   rw [Bool.not_eq_true',Bool.eq_false_iff]
   intro hh
   exact hno _ _ (by omega) hi' (zub1 hh).symm
  refine zfk (zay1 (p:=nanT) (fun _=> ?_) fun h1 h2=> ?_)
  ·refine JoinW1.intro (fun u k=>h≤k) (iteF (by decide) ?_) fun u k hl=>fin u k hl
   exact zmi (zgr1 e.ae e.ee hs fun f er h1 hl=>zgf2 hl)
  ·refine JoinW1.intro (fun u k=>h≤k) (iteT rfl ?_) fun u k hl=>fin u k hl
   exact zng (zgt1 e.ee (by rw [ByteArray.size_extract];omega) fun n er h1 hl=>hl)
end
end Lf

namespace Lf
open Go Go.Proofs
theorem zns1 {x:Nat}:∀ {a b c d:List Nat},x∉a→x∉c→a++x::b=c++x::d→a=c∧b=d
 | [],b,[],d,_,_,h=>by
  rw [List.nil_append,List.nil_append] at h
  exact ⟨rfl,(List.cons.inj h).2⟩
 | [],b,y::c,d,_,hc,h=>by
  rw [List.nil_append,List.cons_append] at h
  exact absurd (List.mem_cons.2 (.inl (List.cons.inj h).1)) hc
 | y::a,b,[],d,ha,_,h=>by
  rw [List.nil_append,List.cons_append] at h
  exact absurd (List.mem_cons.2 (.inl (List.cons.inj h).1.symm)) ha
 | y::a,b,z::c,d,ha,hc,h=>by
  rw [List.cons_append,List.cons_append] at h
  obtain ⟨e1,e2⟩:=List.cons.inj h
  obtain ⟨e3,e4⟩:=zns1 (fun hm=>ha (List.mem_cons.2 (.inr hm))) (fun hm=>hc (List.mem_cons.2 (.inr hm))) e2
  exact ⟨by rw [e1,e3],e4⟩
theorem zgg2 {c:Nat} {ds:List Nat} (hc:49≤c∧c<58) (hd:Digs ds):101∉manL c ds:=by
 unfold manL
 intro hm
 rcases List.mem_cons.1 hm with e | hm
 ·omega
 ·split at hm
  ·cases hm
  ·rcases List.mem_cons.1 hm with e | hm
   ·omega
   ·have:=hd _ hm
    omega
theorem zii2 {n1 n2 e1 e2:Bool} {c1 c2:Nat} {d1 d2 x1 x2:List Nat} (hc1:49≤c1∧c1<58) (hc2:49≤c2∧c2<58) (hd1:Digs d1) (hd2:Digs d2) (hx1:Digs x1) (hx2:Digs x2) (h1:1≤x1.length) (h2:1≤x2.length)
  (h:fltL n1 c1 d1 e1 x1=fltL n2 c2 d2 e2 x2):n1=n2∧c1=c2∧d1=d2∧e1=e2∧x1=x2:=by
 have hn:n1=n2∧manL c1 d1++101::((if e1 then [45] else [])++x1)=manL c2 d2++101::((if e2 then [45] else [])++x2):=by
  unfold fltL at h
  cases n1<;>cases n2
  ·exact ⟨rfl,h⟩
  ·have:c1=45:=(List.cons.inj h).1
   omega
  ·have:45=c2:=(List.cons.inj h).1
   omega
  ·exact ⟨rfl,(List.cons.inj h).2⟩
 obtain ⟨en,h⟩:=hn
 obtain ⟨hm,hx⟩:=zns1 (zgg2 hc1 hd1) (zgg2 hc2 hd2) h
 unfold manL at hm
 obtain ⟨ec,hm⟩:=List.cons.inj hm
 have ed:d1=d2:=by
  split at hm
  ·rename_i e
   split at hm
   ·rename_i e';rw [e,e']
   ·cases hm
  ·split at hm
   ·cases hm
   ·exact (List.cons.inj hm).2
 have ex:e1=e2∧x1=x2:=by
  cases x1 with
  | nil=>exact absurd h1 (by decide)
  | cons y1 x1=>
   cases x2 with
   | nil=>exact absurd h2 (by decide)
   | cons y2 x2=>
    have a1:=hx1 y1 (List.mem_cons.2 (.inl rfl))
    have a2:=hx2 y2 (List.mem_cons.2 (.inl rfl))
    cases e1<;>cases e2
    ·exact ⟨rfl,hx⟩
    ·have:y1=45:=(List.cons.inj hx).1
     omega
    ·have:45=y2:=(List.cons.inj hx).1
     omega
    ·exact ⟨rfl,(List.cons.inj hx).2⟩
 exact ⟨en,ec,ed,ex.1,ex.2⟩
theorem zeq2 :∀a,a<16→∀b,b<16→hexD a=hexD b→a=b:=by decide
theorem zij2 {a b:Nat} (ha:a<18446744073709551616) (hb:b<18446744073709551616) (h:hexL a=hexL b):a=b:=by
 have key:∀j,j≤16→a / 16^(16-j)=b / 16^(16-j):=by
  intro j
  induction j with
  | zero=>intro _;rw [Nat.div_eq_of_lt (by exact ha),Nat.div_eq_of_lt (by exact hb)]
  | succ j ih=>
   intro hj
   have ih:=ih (by omega)
   have e:=zko1 (n:=a) (i:=j) (by omega)
   rw [h,zko1 (by omega)] at e
   have hd:=zeq2 _ (Nat.mod_lt _ (by decide)) _ (Nat.mod_lt _ (by decide)) (Option.some.inj e)
   have sp:∀n:Nat,n / 16^(15-j)=n / 16^(16-j)*16+n / 16^(15-j)%16:=fun n=>by
    rw [show 16-j=15-j+1 by omega,Nat.pow_succ,←Nat.div_div_eq_div_mul]
    omega
   rw [show 16-(j+1)=15-j by omega,sp a,sp b,ih,hd]
 have:=key 16 (Nat.le_refl _)
 rw [Nat.sub_self,Nat.pow_zero,Nat.div_one,Nat.div_one] at this
 exact this
theorem zgh2 (w:Nat) (hw:w<18446744073709551616):w=sgn (negD w)+w%9223372036854775808:=by
 unfold sgn negD
 by_cases c:9223372036854775808≤w
 ·rw [decide_eq_true c,if_pos rfl];omega
 ·rw [decide_eq_false c,if_neg (by decide)];omega
def KindT (w:Nat) (out:List Nat):Prop:=
 (w%9223372036854775808=9218868437227405312∧out=infL (negD w))∨(w%9223372036854775808=0∧out=zeroL (negD w))∨
  (0<w%9223372036854775808∧w%9223372036854775808<9218868437227405312∧TextF (w%9223372036854775808) (negD w) out)
theorem zbf2 {w:Nat} {out:List Nat} (hr:¬9218868437227405312<w%9223372036854775808) (hi:zcr w out):KindT w out:=by
 unfold zcr at hi
 rw [if_neg hr] at hi
 split at hi
 ·rename_i c;exact .inl ⟨c,hi⟩
 ·split at hi
  ·rename_i c;exact .inr (.inl ⟨c,hi⟩)
  ·exact .inr (.inr ⟨by omega,by omega,hi⟩)
theorem zer2 {r:Nat} {neg:Bool} {out:List Nat} (h1:0<r) (h2:r<9218868437227405312) (ht:TextF r neg out):∃c l,out=(if neg then [45] else [])++c::l∧49≤c∧c<58:=by
 obtain ⟨c,ds,eneg,xs,v,s,rfl,hc, -⟩:=zrh h1 h2 ht
 exact ⟨c,_,rfl,hc⟩
theorem zes2 {n1 n2:Bool} {a b:Nat} {l m:List Nat} (ha:a≠45) (hb:b≠45) (h:(if n1 then [45] else [])++a::l=(if n2 then [45] else [])++b::m):n1=n2∧a=b∧l=m:=by
 cases n1<;>cases n2
 ·obtain ⟨e1,e2⟩:=List.cons.inj h
  exact ⟨rfl,e1,e2⟩
 ·exact absurd (List.cons.inj h).1 ha
 ·exact absurd (List.cons.inj h).1.symm hb
 ·obtain ⟨e1,e2⟩:=List.cons.inj (List.cons.inj h).2
  exact ⟨rfl,e1,e2⟩
theorem znt1 {w:Nat} {out:List Nat} (h:KindT w out):∃c l,out=(if negD w then [45] else [])++c::l∧c≠45∧((c=105∧w%9223372036854775808=9218868437227405312)∨(c=48∧w%9223372036854775808=0)∨(49≤c∧c<58∧0<w%9223372036854775808∧w%9223372036854775808<9218868437227405312∧TextF (w%9223372036854775808) (negD w) out)):=by
 rcases h with ⟨e,rfl⟩ | ⟨e,rfl⟩ | ⟨h1,h2,ht⟩
 ·exact ⟨105,_,rfl,by decide,.inl ⟨rfl,e⟩⟩
 ·exact ⟨48,_,rfl,by decide,.inr (.inl ⟨rfl,e⟩)⟩
 ·obtain ⟨c,l,e,c1,c2⟩:=zer2 h1 h2 ht
  exact ⟨c,l,e,by omega,.inr (.inr ⟨c1,c2,h1,h2,ht⟩)⟩
theorem zet2 {a b:Nat} {out:List Nat} (ha:a<18446744073709551616) (hb:b<18446744073709551616) (h1:zcr a out) (h2:zcr b out):a=b:=by
 have hd:∀ {w:Nat},zcr w out→(out[0]? =some 110∧out=[110,97,110,58]++hexL w)∨(¬9218868437227405312<w%9223372036854775808∧∃c,out[0]? =some c∧c<110):=fun {w} hi=>by
  by_cases hr:9218868437227405312<w%9223372036854775808
  ·have:=hi
   unfold zcr at this
   rw [if_pos hr] at this
   exact .inl ⟨by rw [this];rfl,this⟩
  ·exact .inr ⟨hr,znq1 hr hi⟩
 rcases hd h1 with ⟨f1,e1⟩ | ⟨r1,c1,f1,g1⟩<;>rcases hd h2 with ⟨f2,e2⟩ | ⟨r2,c2,f2,g2⟩
 ·rw [e1] at e2
  exact zij2 ha hb (List.append_cancel_left e2)
 ·rw [f1] at f2
  have:=Option.some.inj f2
  omega
 ·rw [f1] at f2
  have:=Option.some.inj f2
  omega
 ·obtain ⟨x,l,ex,x45,kx⟩:=znt1 (zbf2 r1 h1)
  obtain ⟨y,m,ey,y45,ky⟩:=znt1 (zbf2 r2 h2)
  have eo:=ex.symm.trans ey
  obtain ⟨en,exy, -⟩:=zes2 x45 y45 eo
  rw [zgh2 a ha,zgh2 b hb,en]
  congr 1
  rcases kx with ⟨p,q⟩ | ⟨p,q⟩ | ⟨p,p',q1,q2,q⟩<;>rcases ky with ⟨p2,u⟩ | ⟨p2,u⟩ | ⟨p2,p2',u1,u2,u⟩
  ·rw [q,u]
  ·omega
  ·omega
  ·omega
  ·rw [q,u]
  ·omega
  ·omega
  ·omega
  ·obtain ⟨c,ds,eneg,xs,v,s,e1,hc,hds, -,hxs,x1, -,ev,es, -, -, -, -,he⟩:=zrh q1 q2 q
   obtain ⟨c',ds',eneg',xs',v',s',e1',hc',hds', -,hxs',x1', -,ev',es', -, -, -, -,he'⟩:=zrh u1 u2 u
   obtain ⟨-,rfl,rfl,rfl,rfl⟩:=zii2 hc hc' hds hds' hxs hxs' x1 x1' (e1.symm.trans e1')
   subst ev
   subst es
   subst ev'
   subst es'
   have i1:=zfd1 q1 q2
   have i2:=zfd1 u1 u2
   rw [←he] at i1
   rw [←he'] at i2
   exact zae2 q1 u1 i1 i2
theorem znu1 {x:List Nat} (h:∀z∈x,z<128):(strN x).data.toList.map UInt8.toNat=x:=by
 rw [zhz,List.map_map]
 have:x.map (UInt8.toNat ∘ UInt8.ofNat)=x.map id:=List.map_congr_left fun z hz=>by
  show (UInt8.ofNat z).toNat=z
  rw [UInt8.toNat_ofNat']
  exact Nat.mod_eq_of_lt (by have:=h z hz;omega)
 rw [this,List.map_id]
theorem zeu2 {a b:Nat} {x y:List Nat} (ha:a<18446744073709551616) (hb:b<18446744073709551616) (h1:zcr a x) (h2:zcr b y) (h:strN x=strN y):a=b:=by
 have e1:=znu1 (zuh h1).2
 rw [h,znu1 (zuh h2).2] at e1
 subst e1
 exact zet2 ha hb h1 h2
end Lf



namespace Lf
open Go Go.Proofs Go.ChangeShapes Go.WideShapes Go.ChangeAt Go.RowKit
abbrev fltLaid :List (String×DataW Unit):=YtgmfbapkfjemnaaGreatDoor.Rows.fltReturnsUptoRow.laid
theorem star : "*" ++ "errors.errorString" = "*errors.errorString" :=by decide
theorem zjt2 (u:TypeId) (h:Tryz.prog.typeName? 3 u=some "*errors.errorString"):u=202:=
 typeName_ptr_named (nm:= "errors.errorString") (by rw [star];kernel_rfl) (by kernel_rfl) (by decide) u (by rw [star];exact h)
def dbL :List Int:=[0,1,56,2,57,49,28,3,61,58,42,50,38,29,17,4,62,47,59,36,45,43,51,22,53,39,33,30,24,18,12,5,63,55,48,27,60,41,37,16,46,35,44,21,52,32,23,11,54,26,40,15,34,20,31,10,25,14,19,9,13,8,7,6]
theorem zev2 :∀k,k<61→Go.Pinned.cheatRows[k]? =some (newD k,(fiveL k).map UInt8.ofNat):=by decide+kernel
theorem env_laid {W:World} (h:laidMetH Tryz.prog fltLaid W):VEnv (whole W):=by
 rw [MakeChecks.laidMetH_plain _ _ _ (by kernel_rfl)] at h
 have h1:=h.tail
 have h2:=h1.tail
 have h3:=h2.tail
 have h4:=h3.tail
 have h5:=h4.tail
 have h6:=h5.tail
 have h8:=h6.tail.tail
 have h9:=h8.tail
 have h10:=h9.tail
 have h11:=h10.tail
 have h12:=h11.tail
 have i0:LdIs (whole W) ⟨7,0,none⟩ [.int .u64 52]:=zbi1 (j:=0) rfl h3 (by kernel_rfl) (by kernel_rfl) Tryz.underlying213 rfl rfl (by kernel_rfl) (by kernel_rfl)
 have i1:LdIs (whole W) ⟨7,1,none⟩ [.int .u64 11]:=zbi1 (j:=1) rfl h3 (by kernel_rfl) (by kernel_rfl) Tryz.underlying213 rfl rfl (by kernel_rfl) (by kernel_rfl)
 have i2:LdIs (whole W) ⟨7,2,none⟩ [.int .i64 (-1023)]:=zbi1 (j:=2) rfl h3 (by kernel_rfl) (by kernel_rfl) Tryz.underlying213 rfl rfl (by kernel_rfl) (by kernel_rfl)
 have fe:FEnv (whole W):=by
  refine ⟨?_,?_,?_,i0,?_⟩
  ·exact zvn1 (g:=8) h12 (by kernel_rfl) (by kernel_rfl) Tryz.underlying229 Tryz.underlying228 rfl rfl rfl rfl rfl rfl (by kernel_rfl) (by kernel_rfl) (by kernel_rfl)
  ·have h8':laidMet Tryz.prog (("internal/strconv.uint64pow10",.agg (((List.range 20).map fun k=>((10^k:Nat):Int)).map fun x=>.lit (.int .u64 x)))::_) W:=h8
   have:=zmb1 (g:=5) h8' (by kernel_rfl) (by kernel_rfl) Tryz.underlying182 Tryz.underlying51 (by kernel_rfl) (by kernel_rfl)
   rw [List.map_map] at this
   exact this
  ·exact zzc1 (g:=2) h4 (by kernel_rfl) (by kernel_rfl) Tryz.underlying4
  ·have h6':laidMet Tryz.prog (("internal/strconv.float64pow10",.slice (pow10F.map fun x=>.lit (.float .f64 x)) [])::_) W:=h6
   exact zps1 (g:=12) h6' (by kernel_rfl) (by kernel_rfl) Tryz.underlying240 Tryz.underlying48 (by kernel_rfl)
 have tz:LdIs (whole W) ⟨14,15,none⟩ [.int .u8 4]:=by
  have h1':laidMet Tryz.prog (("math/bits.deBruijn64tab",.agg (dbL.map fun x=>.lit (.int .u8 x)))::_) W:=h1
  have:=zmb1 (g:=14) h1' (by kernel_rfl) (by kernel_rfl) Tryz.underlying242 Tryz.underlying5 (by kernel_rfl) (by kernel_rfl)
  intro i v hv
  cases i with
  | zero=>
   cases hv
   have:=this 15 _ rfl
   rw [box_add] at this
   rw [box_add]
   exact this
  | succ i=>simp at hv
 have err:∀ {n:String} {text:List UInt8} {r:List (String×DataW Unit)} {g:Nat},laidMet Tryz.prog ((n,.iface "*errors.errorString" (.ptr (.agg [.lit (.string text)])))::r) W→Tryz.prog.globalNamed n=some g→(Tryz.prog.globals[g]?).map (·.type)=some 56→∃te pe,LdIs (whole W) ⟨g,0,none⟩ [.iface te pe]:=fun {n text r g} hl hg ht=>by
  obtain ⟨a0,s0,hv0, -, -, -⟩:=laid_sentinel hl hg ht Tryz.underlying56 zjt2 Tryz.underlying202 Tryz.underlying204 rfl rfl Tryz.underlying9 (by kernel_rfl) (by kernel_rfl)
  refine ⟨202,.pointer (some a0),fun i v e=> ?_⟩
  cases i with
  | succ i=>simp at e
  | zero=>
   cases e
   have h0:=World.var?_cell hg hv0 0
   rw [zkk,box_add]
   simpa using h0
 refine ⟨⟨fe,tz⟩,⟨fe,⟨⟨zte1 h3 (by kernel_rfl) (by kernel_rfl) Tryz.underlying213 (of_decide_eq_true (by kernel_rfl)),i0,i1,i2,zte1 h2 (by kernel_rfl) (by kernel_rfl) Tryz.underlying213 (of_decide_eq_true (by kernel_rfl))⟩,?_,?_⟩⟩,⟨err h10 (by kernel_rfl) (by kernel_rfl),err h9 (by kernel_rfl) (by kernel_rfl)⟩⟩
 ·have h11':laidMet Tryz.prog (("internal/strconv.leftcheats",.slice (Go.Pinned.cheatRows.map fun x=>.agg [.lit (.int .i64 x.1),.lit (.string x.2)]) [])::_) W:=h11
  obtain ⟨a,c,e1,e2⟩:=zvp1 (g:=9) h11' (by kernel_rfl) (by kernel_rfl) Tryz.underlying233 Tryz.underlying232 rfl rfl rfl rfl rfl rfl Tryz.underlying3 Tryz.underlying9 (by kernel_rfl) (by kernel_rfl) (by kernel_rfl)
  have hlen:Go.Pinned.cheatRows.length=61:=by decide+kernel
  rw [hlen] at e1
  exact ⟨a,c,e1,fun k hk=>e2 k _ (zev2 k hk)⟩
 ·have h5':laidMet Tryz.prog (("internal/strconv.powtab",.slice (powL.map fun x=>.lit (.int .i64 x)) [])::_) W:=h5
  exact zpu1 (g:=11) h5' (by kernel_rfl) (by kernel_rfl) Tryz.underlying239 Tryz.underlying3 (by kernel_rfl)
theorem own :ownKnob Tryz.prog.godebug=none:=by kernel_rfl
theorem laidOut :laidOutB Tryz.prog=true:=by kernel_rfl
theorem laid_met (os:Os) (args:Array Value):laidMetH Tryz.prog fltLaid ((World.laidAll Tryz.prog os fltLaid).forCall (fun _ _=>0) ⟨#[],args,[]⟩).memory:=by
 rw [MakeChecks.laidMetH_plain _ _ _ (by kernel_rfl)]
 exact laidMet_laidAll args (by kernel_rfl) (by kernel_rfl)
end Lf

namespace Lf
open Go
def bB (l:List Nat):List UInt8:=l.map UInt8.ofNat
def decB (v:Int):List UInt8:=bB (signL v++decL v.natAbs)
def InI (v:Int):Prop:= -9223372036854775808≤v∧v<9223372036854775808
theorem zcb1 {z:Nat} (h:z<256):(UInt8.ofNat z).toNat=z:=by
 rw [UInt8.toNat_ofNat']
 exact Nat.mod_eq_of_lt h
theorem zbg2 :∀(zs:List Nat) (n:Nat),n≤zs.foldl (fun n z=>10*n+(z-48)) n
 | [],_=>Nat.le_refl _
 | z::zs,n=>Nat.le_trans (by omega) (zbg2 zs (10*n+(z-48)))
theorem zuk1 {M:Nat} (hM:M≤18446744073709551615):∀(zs:List Nat) (acc:Nat),(∀z∈zs,48≤z∧z<58)→zs.foldl (fun n z=>10*n+(z-48)) acc≤M→Lib.parseUintM M acc (bB zs)=.ok (zs.foldl (fun n z=>10*n+(z-48)) acc)
 | [],_,_,_=>rfl
 | z::zs,acc,hz,hf=>by
  obtain ⟨z0,z1⟩:=hz z (List.mem_cons_self ..)
  have hg:=zbg2 zs (10*acc+(z-48))
  rw [List.foldl_cons] at hf ⊢
  have e:acc*10+(z-48)=10*acc+(z-48):=by omega
  show (if 48≤(UInt8.ofNat z).toNat∧(UInt8.ofNat z).toNat≤57 then _ else _)=_
  rw [zcb1 (by omega),if_pos ⟨z0,by omega⟩,if_neg (by omega),e,if_neg (by omega)]
  exact zuk1 hM zs _ (fun x hx=>hz x (List.mem_cons_of_mem _ hx)) hf
theorem znv1 {n:Nat} (h:n<18446744073709551616):Lib.parseUintB 64 (bB (decL n))=.ok n:=by
 have hl:1≤(decL n).length:=by rw [zse];exact zmn _
 unfold Lib.parseUintB
 rw [if_neg (by intro e;have:=congrArg List.length e;unfold bB at this;rw [List.length_map] at this;simp at this;rw [this] at hl;simp at hl)]
 obtain ⟨M,hM⟩:∃M,M=2^64-1:=⟨_,rfl⟩
 have e:=zdk1 n
 unfold numV at e
 rw [←hM,zuk1 (by omega) _ _ (zxi n) (by rw [e];omega),e]
theorem znw1 {v:Int} (h:InI v):Lib.parseIntB 64 (decB v)=.ok v:=by
 obtain ⟨h0,h1⟩:=h
 have hm:=znv1 (n:=v.natAbs) (by omega)
 unfold decB signL
 by_cases hn:v<0
 ·rw [if_pos hn]
  have e:bB ([45]++decL v.natAbs)=45::bB (decL v.natAbs):=rfl
  rw [e]
  unfold Lib.parseIntB
  have h45:(45:UInt8).toNat=45:=rfl
  simp only [h45]
  rw [if_pos (Or.inr trivial),hm]
  show (if ¬True∧2^(64-1)≤v.natAbs then _ else _)=_
  rw [if_neg (by simp),if_neg (by rintro ⟨-,hh⟩;omega),if_pos trivial]
  congr 1
  omega
 ·rw [if_neg hn,List.nil_append]
  have hl:1≤(decL v.natAbs).length:=by rw [zse];exact zmn _
  have hd:=zxi v.natAbs
  cases hq:decL v.natAbs with
  | nil=>rw [hq] at hl;simp at hl
  | cons z zs=>
   rw [hq] at hm hd
   obtain ⟨z0,z1⟩:=hd z (List.mem_cons_self ..)
   have e:bB (z::zs)=UInt8.ofNat z::bB zs:=rfl
   rw [e] at hm ⊢
   unfold Lib.parseIntB
   have hz:=zcb1 (z:=z) (by omega)
   simp only [hz]
   rw [if_neg (by omega),hm]
   show (if ¬(z=45)∧2^(64-1)≤v.natAbs then _ else _)=_
   rw [if_neg (by intro hh;have:=hh.2;omega),if_neg (by omega),if_neg (by omega)]
   congr 1
   omega
def intV (s:List UInt8):Option Int:=match Lib.parseIntB 64 s with
 | .ok v=>if decB v=s then some v else none
 | _=>none
theorem zfp1 {s:List UInt8} {v:Int} (h:Lib.parseIntB 64 s=.ok v):InI v:=by
 unfold Lib.parseIntB at h
 split at h
 ·cases h
 ·rename_i c r
  simp only at h
  split at h
  ·cases h
  ·cases h
  ·rename_i u hu
   by_cases hc:c.toNat=45
   ·rw [if_neg (by simp [hc])] at h
    by_cases h2:2^(64-1)<u
    ·rw [if_pos ⟨hc,h2⟩] at h;cases h
    ·rw [if_neg (fun e=>h2 e.2),if_pos hc] at h
     cases h
     unfold InI
     omega
   ·by_cases h2:2^(64-1)≤u
    ·rw [if_pos ⟨hc,h2⟩] at h;cases h
    ·rw [if_neg (fun e=>h2 e.2),if_neg (fun e=>hc e.1),if_neg hc] at h
     cases h
     unfold InI
     omega
theorem zul1 {v:Int} (h:InI v):intV (decB v)=some v:=by
 unfold intV
 rw [znw1 h]
 exact if_pos rfl
theorem zfq1 {s:List UInt8} {v:Int} (h:intV s=some v):s=decB v∧InI v:=by
 unfold intV at h
 split at h
 ·rename_i u hu
  split at h
  ·rename_i he
   cases h
   exact ⟨he.symm,zfp1 hu⟩
  ·cases h
 ·cases h
def i64N (v:Int):Nat:=(IntKind.wrap .u64 v).toNat
theorem zkw1 (v:Int):i64N v<18446744073709551616:=by
 unfold i64N
 rw [zan]
 omega
theorem znx1 (v:Int):IntKind.wrap .u64 v=(i64N v:Int):=by
 unfold i64N
 rw [zan]
 omega
theorem zbh2 {w:Nat} (h:w<18446744073709551616):i64N (IntKind.wrap .i64 (w:Int))=w:=by
 unfold i64N
 rw [znm1 h,Int.toNat_natCast]
theorem zny1 {v:Int} (h:InI v):IntKind.wrap .i64 (i64N v:Int)=v:=by
 rw [←znx1]
 obtain ⟨h0,h1⟩:=h
 rw [zan]
 unfold IntKind.wrap
 simp only [IntKind.signed,IntKind.bits]
 grind
theorem zew2 (v:Int):InI (IntKind.wrap .i64 v):=by
 unfold InI IntKind.wrap
 simp only [IntKind.signed,IntKind.bits]
 grind
noncomputable def fltB (v:Int):List UInt8:=open Classical in if h:∃out,zcr (i64N v) out then bB (choose h) else []
noncomputable def fltV (s:List UInt8):Option Int:=open Classical in if h:∃v,InI v∧∃out,zcr (i64N v) out∧s=bB out then some (choose h) else none
theorem zrg1 {v:Int} {out:List Nat} (h:zcr (i64N v) out):fltB v=bB out:=by
 unfold fltB
 rw [dif_pos ⟨out,h⟩,zic1 (Classical.choose_spec (⟨out,h⟩:∃out,zcr (i64N v) out)) h]
theorem zkx1 (out:List Nat):(strN out).data.toList=bB out:=zhz out
theorem znz1 {s:List UInt8} {v:Int} (h:fltV s=some v):InI v∧∃out,zcr (i64N v) out∧s=bB out:=by
 unfold fltV at h
 split at h
 ·rename_i hq
  cases h
  exact Classical.choose_spec hq
 ·cases h
theorem zik2 {a b:List Nat} (h:bB a=bB b):strN a=strN b:=by
 apply zug
 apply Array.ext'
 exact (zkx1 a).trans (h.trans (zkx1 b).symm)
theorem zbi2 {v:Int} {out:List Nat} (h:InI v) (ht:zcr (i64N v) out):fltV (bB out)=some v:=by
 have hq:∃v,InI v∧∃o,zcr (i64N v) o∧bB out=bB o:=⟨v,h,out,ht,rfl⟩
 unfold fltV
 rw [dif_pos hq]
 obtain ⟨h1,o,ho,he⟩:=Classical.choose_spec hq
 generalize Classical.choose hq=u at*
 have:=zeu2 (zkw1 u) (zkw1 v) ho ht (zik2 he).symm
 rw [←zny1 h1,this,zny1 h]
theorem zbj2 {t:ByteArray} {x e:Int} (h:Said t x e):(fltV t.data.toList=some x∧e=0)∨(fltV t.data.toList=none∧e=4):=by
 rcases h with ⟨w,out,hw,hi,rfl,rfl,rfl⟩ | ⟨hn,rfl,rfl⟩
 ·refine .inl ⟨?_,rfl⟩
  rw [zkx1]
  exact zbi2 (zew2 _) (by rw [zbh2 hw];exact hi)
 ·refine .inr ⟨?_,rfl⟩
  cases hq:fltV t.data.toList with
  | none=>rfl
  | some v=>
   obtain ⟨h1,out,ho,he⟩:=znz1 hq
   refine absurd ?_ (hn _ out (zkw1 v) ho)
   apply zug
   apply Array.ext'
   rw [he,zkx1]
theorem zex2 {r:Nat} {neg:Bool} (h1:0<r) (h2:r<9218868437227405312):∃out,TextF r neg out:=by
 obtain ⟨f1,f2⟩:=zby1 h1 h2
 have hp:=pF_in h1 h2
 have hs2: -3000≤(zbe (mS r) (eS r)).2:=by
  unfold zbe
  split
  ·show -3000≤ -(pF r-1);omega
  ·split
   ·show -3000≤ -pF r;omega
   ·show -3000≤ -pF r;omega
 have key:∀(k u:Nat) (t:Int),u≠0→u≤k→ -3000≤t→u*unitW 0 t=valS r→∃out,TextF r neg out:=by
  intro k
  induction k with
  | zero=>intro u t h0 hk;omega
  | succ k ih=>
   intro u t h0 hk ht hu
   by_cases h:u%10=0
   ·have e:=zhx (a:=0) (b:=t) (n:=1) (by omega)
    exact ih (u / 10) (t+1) (by omega) (by omega) (by omega) (by
     rw [←hu,show t+1=t+((1:Nat):Int) from rfl,←e,←Nat.mul_assoc,show u / 10*10^1=u by omega])
   ·exact ⟨_,u,t,h,ht,hu,rfl⟩
 exact key _ _ _ f1 (Nat.le_refl _) hs2 (rfl:(zbe (mS r) (eS r)).1*unitW 0 (zbe (mS r) (eS r)).2=valS r)
theorem zbk2 (w:Nat):∃out,zcr w out:=by
 unfold zcr
 split
 ·exact ⟨_,rfl⟩
 ·split
  ·exact ⟨_,rfl⟩
  ·split
   ·exact ⟨_,rfl⟩
   ·exact zex2 (by omega) (by omega)
theorem zrh1 (v:Int):∃out,zcr (i64N v) out∧fltB v=bB out:=by
 obtain ⟨out,h⟩:=zbk2 (i64N v)
 exact ⟨out,h,zrg1 h⟩
theorem zbl2 {v:Int} (h:InI v):fltV (fltB v)=some v:=by
 obtain ⟨out,h1,h2⟩:=zrh1 v
 rw [h2]
 exact zbi2 h h1
theorem zoa1 {s:List UInt8} {v:Int} (h:fltV s=some v):s=fltB v∧InI v:=by
 obtain ⟨h1,out,h2,h3⟩:=znz1 h
 exact ⟨by rw [h3,zrg1 h2],h1⟩
theorem zbm2 {b:Nat} {out:List Nat} (h:zcr b out):∀x∈out,45≤x∧x<128:=by
 intro x hx
 refine ⟨?_,(zuh h).2 x hx⟩
 have sg:∀ {n:Bool},∀x∈((if n then [45] else []):List Nat),45≤x:=fun {n}=>by cases n<;>simp
 unfold zcr at h
 split at h
 ·subst h
  rw [List.mem_append] at hx
  rcases hx with hx | hx
  ·simp at hx;omega
  ·unfold hexL at hx
   rw [List.mem_map] at hx
   obtain ⟨i, -,rfl⟩:=hx
   unfold hexD
   split<;>omega
 ·split at h
  ·subst h
   rw [List.mem_append] at hx
   rcases hx with hx | hx
   ·exact sg x hx
   ·simp at hx;omega
  ·split at h
   ·subst h
    rw [List.mem_append] at hx
    rcases hx with hx | hx
    ·exact sg x hx
    ·simp at hx;omega
   ·obtain ⟨c,ds,eneg,xs,v,s,rfl,hc,hds,dl,hxs, -⟩:=zrh (by omega) (by omega) h
    unfold fltL manL at hx
    rw [List.mem_append,List.mem_append,List.mem_cons,List.mem_cons,List.mem_append] at hx
    rcases hx with hx | (hx | hx) | hx | hx | hx
    ·exact sg x hx
    ·omega
    ·split at hx
     ·cases hx
     ·rcases List.mem_cons.1 hx with hx | hx
      ·omega
      ·have:=hds x hx;omega
    ·omega
    ·exact sg x hx
    ·have:=hxs x hx;omega
theorem bB_in {l:List Nat} (h:∀x∈l,45≤x∧x<128):∀c∈bB l,45≤c.toNat∧c.toNat<128:=by
 intro c hc
 unfold bB at hc
 obtain ⟨x,hx,rfl⟩:=List.mem_map.1 hc
 have:=h x hx
 rw [zcb1 (by omega)]
 exact this
theorem zil2 (v:Int):∀c∈fltB v,45≤c.toNat∧c.toNat<128:=by
 obtain ⟨out,h1,h2⟩:=zrh1 v
 rw [h2]
 exact bB_in (zbm2 h1)
theorem zri1 (v:Int):∀c∈decB v,45≤c.toNat∧c.toNat<58:=by
 intro c hc
 unfold decB bB at hc
 obtain ⟨x,hx,rfl⟩:=List.mem_map.1 hc
 have:45≤x∧x<58:=by
  rw [List.mem_append] at hx
  rcases hx with hx | hx
  ·unfold signL at hx
   split at hx
   ·rw [List.mem_singleton] at hx;omega
   ·cases hx
  ·have:=zxi _ x hx;omega
 rw [zcb1 (by omega)]
 exact this
theorem zey2 (v:Int):(fltB v).length≤25:=by
 obtain ⟨out,h1,h2⟩:=zrh1 v
 rw [h2]
 unfold bB
 rw [List.length_map]
 exact (zuh h1).1
theorem zky1 {v:Int} (h:InI v):(decB v).length≤21:=by
 obtain ⟨h0,h1⟩:=h
 have hl:=(zwi1 (m:=v.natAbs) (by omega)).1
 unfold decB bB
 rw [List.length_map,List.length_append]
 have:(signL v).length≤1:=by unfold signL;split<;>simp
 omega
end Lf

namespace Lf
structure PIns where
 op:Int
 a:Int
 b:Int
 c:Int
 imm:Int
def zak (op:Int):Bool×Bool×Bool×Bool:=
 if op=1 then (true,false,false,true)
 else if op=2∨op=20∨op=21∨op=25∨op=26 then (true,true,false,false)
 else if (3≤op∧op≤14)∨(15≤op∧op≤19)∨op=24 then (true,true,true,false)
 else if op=22∨op=29∨op=30 then (false,false,false,true)
 else if op=23 then (true,false,false,true)
 else if op=27∨op=28∨op=31∨op=32∨op=33 then (true,false,false,false)
 else (false,false,false,false)
def regP (has:Bool) (n:Int):Int:=if has=false∧n≠0 then 11 else if n<0∨8≤n then 10 else 0
def zhk (x:PIns) (n locks:Int):Int×Int:=
 if x.op<0∨34≤x.op then (9,0)
 else if regP (zak x.op).1 x.a≠0 then (regP (zak x.op).1 x.a,1)
 else if regP (zak x.op).2.1 x.b≠0 then (regP (zak x.op).2.1 x.b,2)
 else if regP (zak x.op).2.2.1 x.c≠0 then (regP (zak x.op).2.2.1 x.c,3)
 else if (zak x.op).2.2.2=false∧x.imm≠0 then (11,4)
 else if (x.op=22∨x.op=23)∧(x.imm<0∨n<x.imm) then (12,4)
 else if (x.op=29∨x.op=30)∧(x.imm<0∨locks≤x.imm) then (13,4)
 else (0,0)
def codeR (n locks:Int):List PIns→Int→Int×Int
 | [],_=>(0,0)
 | x::r,i=>if (zhk x n locks).1≠0 then ((zhk x n locks).1,i) else codeR n locks r (i+1)
def codeP (l:List PIns) (locks:Int):Int×Int:=
 if locks<0∨8<locks then (1,0) else if 256<l.length then (3,256) else codeR l.length locks l 0
structure PProc where
 part:Int
 code:List PIns
structure PCfg where
 labels:List Int
 table:List Int
 fuel:Int
 lane:Int
 locks:Int
 log:Int
 procs:List PProc
def zkb2 (n a b:Int):Bool:=decide (a≤n)&&decide (n≤b)
end Lf

namespace Lf
open Go
def wordTab :List (List UInt8):=[[101,120,105,116],[115,101,116],[109,111,118,101],[97,100,100],[115,117,98],[109,117,108],[100,105,118],[114,101,109],[97,110,100],[111,114],[120,111,114],[115,104,108],[115,104,114],[108,101,115,115],[101,113,117,97,108],[102,97,100,100],[102,115,117,98],[102,109,117,108],[102,100,105,118],[102,108,101,115,115],[116,111,102,108,111,97,116],[116,111,105,110,116],[106,117,109,112],[105,102],[115,101,110,100],[114,101,99,118],[116,114,121],[116,105,109,101,114],[115,108,101,101,112],[108,111,99,107],[117,110,108,111,99,107],[111,117,116],[110,111,119],[115,101,108,102]]
def wordL (op:Nat):List UInt8:=wordTab.getD op []
theorem zum1 :∀k,k<34→(wordL k).length≤7:=by decide
theorem zbn2 :∀k,k<34→∀c∈wordL k,97≤c.toNat∧c.toNat<123:=by decide
theorem zez2 :∀i,i<34→∀j,j<34→wordL i=wordL j→i=j:=by decide+kernel
def zle (n:Int):Bool:=decide (-4503599627370496≤n)&&decide (n≤4503599627370496)
noncomputable def numB (op n:Int):List UInt8:=if op=1∧zle n=false then 102::fltB n else decB n
def regB (n:Int):List UInt8:=114::decB n
theorem zvp :∀n,n<8→regB ((n:Nat):Int)=[114,UInt8.ofNat (48+n)]:=by
 intro n hn
 unfold regB decB signL
 rw [if_neg (by omega),Int.natAbs_natCast,zbz1 (by omega)]
 rfl
def fldB (has:Bool) (w:List UInt8):List UInt8:=if has then 32::w else []
noncomputable def lineB (x:PIns):List UInt8:=
 wordL x.op.toNat++(fldB (zak x.op).1 (regB x.a)++(fldB (zak x.op).2.1 (regB x.b)++(fldB (zak x.op).2.2.1 (regB x.c)++fldB (zak x.op).2.2.2 (numB x.op x.imm))))
noncomputable def progB (l:List PIns):List UInt8:=l.flatMap fun x=>lineB x++ [10]
def zhl (l:List UInt8) (n:Nat):List UInt8:=(l.drop n).takeWhile (· !=32)
def opOf (w:List UInt8):Option Nat:=(List.range 34).find? fun k=>wordL k==w
def regOf (w:List UInt8):Option Nat:=(List.range 8).find? fun n=>w==[114,UInt8.ofNat (48+n)]
noncomputable def setOf (w:List UInt8):Option Int:=match w with
 | []=>(intV []).filter zle
 | c::r=>if c=102 then (fltV r).filter (fun n=> !zle n) else (intV (c::r)).filter zle
noncomputable def immOf (op:Int) (w:List UInt8):Option Int:=if op=1 then setOf w else intV w
def immE (op n v:Int):Int:=if (op=22∨op=23)∧(v<0∨n<v) then 12 else if (op=29∨op=30)∧(v<0∨8≤v) then 13 else 0
structure RS where
 pos:Nat
 e:Int
 bad:Nat
def giveR (s:RS) (e:Int) (n:Nat):RS:=if s.e=0 then ⟨s.pos,e,n⟩ else s
def zhf (l:List UInt8) (s:RS):Option (List UInt8×Nat)×RS:=
 if s.e≠0 then (none,s) else if s.pos=l.length then (none,⟨s.pos,5,s.pos⟩) else (some (zhl l (s.pos+1),s.pos+1),⟨s.pos+1+(zhl l (s.pos+1)).length,0,s.bad⟩)
def regR (l:List UInt8) (s:RS) (has:Bool):Int×RS:=
 if has=false then (0,s) else match zhf l s with
  | (none,s')=>(0,s')
  | (some (w,f),s')=>match regOf w with
   | some n=>((n:Int),s')
   | none=>(0,⟨s'.pos,10,f⟩)
noncomputable def immR (l:List UInt8) (n op:Int) (s:RS):Int×RS:=match zhf l s with
 | (none,s')=>(0,s')
 | (some (w,f),s')=>match immOf op w with
  | none=>(0,⟨s'.pos,4,f⟩)
  | some v=>if immE op n v=0 then (v,s') else (0,⟨s'.pos,immE op n v,f⟩)
noncomputable def restR (l:List UInt8) (n op:Int) (has:Bool) (s:RS):Int×RS:=if has then immR l n op s else (0,s)
def endR (l:List UInt8) (s:RS):RS:=if s.pos<l.length then giveR s 6 s.pos else s
noncomputable def insR (l:List UInt8) (n:Int):PIns×RS:=match opOf (zhl l 0) with
 | none=>(⟨0,0,0,0,0⟩,⟨0,9,0⟩)
 | some k=>
  let f:=zak (k:Int)
  let p1:=regR l ⟨(zhl l 0).length,0,0⟩ f.1
  let p2:=regR l p1.2 f.2.1
  let p3:=regR l p2.2 f.2.2.1
  let p4:=restR l n (k:Int) f.2.2.2 p3.2
  (⟨(k:Int),p1.1,p2.1,p3.1,p4.1⟩,endR l p4.2)
noncomputable def zjs (n:Int):Nat→List UInt8→Int→List PIns→List PIns×Int×Int×Int
 | 0,_,_,_=>([],0,0,0)
 | k+1,r,i,acc=>
  if r=[] then (acc,0,0,0)
  else if 256<i then ([],3,i,0)
  else
   let s:=r.takeWhile (· !=10)
   let p:=insR s n
   let st:=if s.length=r.length then giveR p.2 5 s.length else p.2
   if st.e≠0 then ([],st.e,i,(st.bad:Int)) else zjs n k (r.drop (s.length+1)) (i+1) (acc++ [p.1])
noncomputable def zia (t:List UInt8):List PIns×Int×Int×Int:=zjs ((t.count 10:Nat):Int) (t.length+1) t 1 []
def Bl (r:List UInt8):Prop:=r=[]∨∃t,r=32::t
theorem zob1 {F r:List UInt8} (hF:∀c∈F,c≠32) (hb:Bl r):(F++r).takeWhile (· !=32)=F:=by
 rw [List.takeWhile_append_of_pos (fun c hc=>bne_iff_ne.2 (hF c hc))]
 rcases hb with rfl | ⟨t,rfl⟩
 ·simp
 ·simp
theorem zoc1 (r:List UInt8):Bl (r.dropWhile (· !=32)):=by
 induction r with
 | nil=>exact .inl rfl
 | cons c r ih=>
  rw [List.dropWhile_cons]
  split
  ·exact ih
  ·rename_i h
   refine .inr ⟨r,?_⟩
   have:c=32:=by simpa using h
   rw [this]
theorem zod1 (r:List UInt8):∀c∈r.takeWhile (· !=32),c≠32:=by
 intro c hc
 have:=List.all_takeWhile (l:=r) (p:=(· !=32))
 rw [List.all_eq_true] at this
 exact bne_iff_ne.1 (this c hc)
theorem zaz1 {P F r:List UInt8} {b:Nat} (hF:∀c∈F,c≠32) (hb:Bl r):zhf (P++32::(F++r)) ⟨P.length,0,b⟩=(some (F,P.length+1),⟨(P++32::F).length,0,b⟩):=by
 unfold zhf
 rw [if_neg (by simp),if_neg (by simp)]
 have e:zhl (P++32::(F++r)) (P.length+1)=F:=by
  unfold zhl
  rw [show P++32::(F++r)=(P++ [32])++(F++r) by simp,List.drop_left' (by simp)]
  exact zob1 hF hb
 show (some (zhl _ (P.length+1),P.length+1),(⟨P.length+1+_,0,b⟩:RS))=_
 rw [e]
 simp only [List.length_append,List.length_cons]
 congr 2
 omega
theorem zii1 {P:List UInt8} {b:Nat}:zhf P ⟨P.length,0,b⟩=(none,⟨P.length,5,P.length⟩):=by
 unfold zhf
 rw [if_neg (by simp),if_pos rfl]
theorem zij1 {l:List UInt8} {s:RS} (h:s.e≠0):zhf l s=(none,s):=if_pos h
theorem Bl.cut {r:List UInt8} (hb:Bl r) (h0:r≠ []):∃F r',r=32::(F++r')∧(∀c∈F,c≠32)∧Bl r':=by
 rcases hb with rfl | ⟨t,rfl⟩
 ·exact absurd rfl h0
 ·exact ⟨_,_,congrArg (32:: ·) (List.takeWhile_append_dropWhile (p:=(· !=32)) (l:=t)).symm,zod1 t,zoc1 t⟩
theorem zim2 {p:Nat→Bool} {N k:Nat} (hk:k<N) (hp:p k=true) (h1:∀j,j<N→p j=true→j=k):(List.range N).find? p=some k:=by
 rw [List.find?_range_eq_some]
 refine ⟨hp,List.mem_range.2 hk,fun j hj=> ?_⟩
 cases hq:p j with
 | false=>rfl
 | true=>have:=h1 j (by omega) hq;omega
theorem zoe1 {k:Nat} (hk:k<34):opOf (wordL k)=some k:=zim2 hk (by simp) fun j hj e=>zez2 j hj k hk (by simpa using e)
theorem zof1 {w:List UInt8} {k:Nat} (h:opOf w=some k):k<34∧w=wordL k:=by
 unfold opOf at h
 rw [List.find?_range_eq_some] at h
 obtain ⟨h1,h2, -⟩:=h
 exact ⟨List.mem_range.1 h2,(eq_of_beq h1).symm⟩
theorem zwu1 {w:List UInt8} {n:Nat} (h:regOf w=some n):n<8∧w=[114,UInt8.ofNat (48+n)]:=by
 unfold regOf at h
 rw [List.find?_range_eq_some] at h
 obtain ⟨h1,h2, -⟩:=h
 exact ⟨List.mem_range.1 h2,eq_of_beq h1⟩
theorem zog1 :∀n,n<8→regOf [114,UInt8.ofNat (48+n)]=some n:=by decide
theorem zbo2 :∀n,n<8→∀c∈ [114,UInt8.ofNat (48+n)],c≠32:=by decide
theorem filter_some {α:Type} {o:Option α} {p:α→Bool} {v:α} (h:o.filter p=some v):o=some v∧p v=true:=by
 cases o with
 | none=>cases h
 | some u=>
  rw [Option.filter_some] at h
  split at h
  ·rename_i hp
   cases h
   exact ⟨rfl,hp⟩
  ·cases h
theorem zbp2 {v:Int} {c:UInt8} {r:List UInt8} (h:decB v=c::r):c≠102:=by
 have:=zri1 v c (by rw [h];exact List.mem_cons_self ..)
 intro e
 rw [e] at this
 exact absurd this.2 (by decide)
theorem zin2 (v:Int):decB v≠ []:=by
 intro e
 have:=congrArg List.length e
 unfold decB bB at this
 rw [List.length_map,List.length_append,zse] at this
 have:=zmn v.natAbs
 simp at*
 omega
theorem zbq2 {op v:Int} (h:InI v):immOf op (numB op v)=some v:=by
 unfold immOf numB
 by_cases h1:op=1
 ·rw [if_pos h1]
  by_cases hs:zle v=false
  ·rw [if_pos ⟨h1,hs⟩]
   unfold setOf
   show (if (102:UInt8)=102 then _ else _)=_
   rw [if_pos rfl,zbl2 h,Option.filter_some,hs]
   rfl
  ·rw [if_neg (fun e=>hs e.2)]
   have hs:zle v=true:=by simpa using hs
   unfold setOf
   cases hq:decB v with
   | nil=>exact absurd hq (zin2 v)
   | cons c r=>
    show (if c=102 then _ else _)=_
    rw [if_neg (zbp2 hq),←hq,zul1 h,Option.filter_some,hs]
    rfl
 ·rw [if_neg h1,if_neg (fun e=>h1 e.1),zul1 h]
theorem zwv1 {op v:Int} {w:List UInt8} (h:immOf op w=some v):w=numB op v∧InI v:=by
 unfold immOf at h
 unfold numB
 by_cases h1:op=1
 ·rw [if_pos h1] at h
  unfold setOf at h
  split at h
  ·obtain ⟨h2,h3⟩:=filter_some h
   rw [if_neg (by rw [h3];simp)]
   exact zfq1 h2
  ·rename_i c r
   split at h
   ·rename_i hc
    obtain ⟨h2,h3⟩:=filter_some h
    have hs:zle v=false:=by simpa using h3
    rw [if_pos ⟨h1,hs⟩,hc,←(zoa1 h2).1]
    exact ⟨rfl,(zoa1 h2).2⟩
   ·obtain ⟨h2,h3⟩:=filter_some h
    rw [if_neg (by rw [h3];simp)]
    exact zfq1 h2
 ·rw [if_neg h1] at h
  rw [if_neg (fun e=>h1 e.1)]
  exact zfq1 h
theorem zbr2 (op v:Int):∀c∈numB op v,45≤c.toNat∧c.toNat<128:=by
 intro c hc
 unfold numB at hc
 split at hc
 ·rcases List.mem_cons.1 hc with rfl | hc
  ·decide
  ·exact zil2 v c hc
 ·have:=zri1 v c hc;omega
theorem zio2 {F:List UInt8} (h:∀c∈F,45≤c.toNat∧c.toNat<128):∀c∈F,c≠32:=by
 intro c hc e
 have:=(h c hc).1
 rw [e] at this
 exact absurd this (by decide)
theorem zrj1 {P r:List UInt8} {b:Nat} {has:Bool} {n:Int} (hr:regP has n=0) (hb:Bl r):regR (P++(fldB has (regB n)++r)) ⟨P.length,0,b⟩ has=(n,⟨(P++fldB has (regB n)).length,0,b⟩):=by
 unfold regR fldB
 unfold regP at hr
 cases has with
 | false=>
  have:n=0:=by
   refine Classical.byContradiction fun hn=> ?_
   rw [if_pos ⟨rfl,hn⟩] at hr
   cases hr
  subst this
  rw [if_pos rfl]
  simp
 | true=>
  rw [if_neg (fun e=>by cases e.1)] at hr
  have hn:0≤n∧n<8:=by
   refine Classical.byContradiction fun hn=> ?_
   rw [if_pos (by omega)] at hr
   cases hr
  obtain ⟨k,rfl⟩:∃k:Nat,n=k:=⟨n.toNat,by omega⟩
  have hk:k<8:=by omega
  rw [if_neg (by simp),if_pos rfl,zvp k hk]
  show (match zhf (P++32::([114,UInt8.ofNat (48+k)]++r)) ⟨P.length,0,b⟩ with | (none,s')=>(0,s') | (some (w,f),s')=>(match regOf w with | some n=>((n:Int),s') | none=>(0,⟨s'.pos,10,f⟩)))=_
  rw [zaz1 (zbo2 k hk) hb]
  show (match regOf [114,UInt8.ofNat (48+k)] with | some n=>_ | none=>_)=_
  rw [zog1 k hk]
theorem zun1 {l:List UInt8} {s:RS} {has:Bool} (h:s.e≠0):(regR l s has).2=s:=by
 unfold regR
 split
 ·rfl
 ·rw [zij1 h]
theorem zfr1 {P r:List UInt8} {b:Nat} {has:Bool} (hb:Bl r) (h:(regR (P++r) ⟨P.length,0,b⟩ has).2.e=0):
  ∃r',Bl r'∧r=fldB has (regB (regR (P++r) ⟨P.length,0,b⟩ has).1)++r'∧(regR (P++r) ⟨P.length,0,b⟩ has).2=⟨(P++fldB has (regB (regR (P++r) ⟨P.length,0,b⟩ has).1)).length,0,b⟩∧regP has (regR (P++r) ⟨P.length,0,b⟩ has).1=0:=by
 cases has with
 | false=>
  have e:regR (P++r) ⟨P.length,0,b⟩ false=(0,⟨P.length,0,b⟩):=rfl
  rw [e]
  exact ⟨r,hb,rfl,by simp [fldB],rfl⟩
 | true=>
  by_cases h0:r=[]
  ·subst h0
   have e:regR (P++ []) ⟨P.length,0,b⟩ true=(0,⟨P.length,5,P.length⟩):=by
    unfold regR
    rw [if_neg (by simp),List.append_nil,zii1]
   rw [e] at h
   exact absurd h (by show ¬(5:Int)=0;decide)
  ·obtain ⟨F,r',rfl,hF,hb'⟩:=hb.cut h0
   have e:regR (P++32::(F++r')) ⟨P.length,0,b⟩ true=(match regOf F with | some n=>((n:Int),⟨(P++32::F).length,0,b⟩) | none=>(0,⟨(P++32::F).length,10,P.length+1⟩)):=by
    unfold regR
    rw [if_neg (by simp),zaz1 hF hb']
   rw [e] at h ⊢
   cases hq:regOf F with
   | none=>
    rw [hq] at h
    exact absurd h (by show ¬(10:Int)=0;decide)
   | some n=>
    obtain ⟨hn,hw⟩:=zwu1 hq
    refine ⟨r',hb',?_,?_,?_⟩
    ·show 32::(F++r')=fldB true (regB (n:Int))++r'
     rw [zvp n hn,←hw]
     rfl
    ·show (⟨(P++32::F).length,0,b⟩:RS)=⟨(P++fldB true (regB (n:Int))).length,0,b⟩
     rw [zvp n hn,←hw]
     rfl
    ·show regP true (n:Int)=0
     unfold regP
     rw [if_neg (by simp),if_neg (by omega)]
theorem zfa2 {P r:List UInt8} {b:Nat} {has:Bool} {op n v:Int} (h0:has=false→v=0) (hv:InI v) (he:has=true→immE op n v=0) (hb:Bl r):restR (P++(fldB has (numB op v)++r)) n op has ⟨P.length,0,b⟩=(v,⟨(P++fldB has (numB op v)).length,0,b⟩):=by
 unfold restR fldB
 cases has with
 | false=>
  rw [h0 rfl]
  simp
 | true=>
  rw [if_pos rfl,if_pos rfl]
  unfold immR
  show (match zhf (P++32::(numB op v++r)) ⟨P.length,0,b⟩ with | (none,s')=>(0,s') | (some (w,f),s')=>(match immOf op w with | none=>(0,⟨s'.pos,4,f⟩) | some v=>if immE op n v=0 then (v,s') else (0,⟨s'.pos,immE op n v,f⟩)))=_
  rw [zaz1 (zio2 (zbr2 op v)) hb]
  show (match immOf op (numB op v) with | none=>_ | some v=>_)=_
  rw [zbq2 hv]
  show (if immE op n v=0 then _ else _)=_
  rw [if_pos (he rfl)]
theorem zbs2 {l:List UInt8} {s:RS} {has:Bool} {op n:Int} (h:s.e≠0):(restR l n op has s).2=s:=by
 unfold restR
 split
 ·unfold immR
  rw [zij1 h]
 ·rfl
theorem zww1 {P r:List UInt8} {b:Nat} {has:Bool} {op n:Int} (hb:Bl r) (h:(restR (P++r) n op has ⟨P.length,0,b⟩).2.e=0):
  ∃r' v,Bl r'∧restR (P++r) n op has ⟨P.length,0,b⟩=(v,⟨(P++fldB has (numB op v)).length,0,b⟩)∧r=fldB has (numB op v)++r'∧InI v∧(has=false→v=0)∧(has=true→immE op n v=0):=by
 cases has with
 | false=>exact ⟨r,0,hb,by simp [restR,fldB],rfl,by unfold InI;omega,fun _=>rfl,fun e=>by cases e⟩
 | true=>
  by_cases h0:r=[]
  ·subst h0
   have e:restR (P++ []) n op true ⟨P.length,0,b⟩=(0,⟨P.length,5,P.length⟩):=by
    unfold restR immR
    rw [if_pos rfl,List.append_nil,zii1]
   rw [e] at h
   exact absurd h (by show ¬(5:Int)=0;decide)
  ·obtain ⟨F,r',rfl,hF,hb'⟩:=hb.cut h0
   have e:restR (P++32::(F++r')) n op true ⟨P.length,0,b⟩=(match immOf op F with | none=>(0,⟨(P++32::F).length,4,P.length+1⟩) | some v=>if immE op n v=0 then (v,⟨(P++32::F).length,0,b⟩) else (0,⟨(P++32::F).length,immE op n v,P.length+1⟩)):=by
    unfold restR immR
    rw [if_pos rfl,zaz1 hF hb']
   rw [e] at h ⊢
   cases hq:immOf op F with
   | none=>
    rw [hq] at h
    exact absurd h (by show ¬(4:Int)=0;decide)
   | some v=>
    rw [hq] at h
    obtain ⟨hw,hi⟩:=zwv1 hq
    have he:immE op n v=0:=by
     refine Classical.byContradiction fun hn=> ?_
     have h:(if immE op n v=0 then ((v,⟨(P++32::F).length,0,b⟩):Int×RS) else (0,⟨(P++32::F).length,immE op n v,P.length+1⟩)).2.e=0:=h
     rw [if_neg hn] at h
     exact hn h
    refine ⟨r',v,hb',?_,?_,hi,fun e=>(by cases e),fun _=>he⟩
    ·show (if immE op n v=0 then ((v,⟨(P++32::F).length,0,b⟩):Int×RS) else _)=_
     rw [if_pos he,←hw]
     rfl
    ·rw [←hw]
     rfl
end Lf

namespace Lf
open Go
theorem wrong_right {x:PIns} {n:Int}:(zhk x n 8).1=0↔(0≤x.op∧x.op<34)∧regP (zak x.op).1 x.a=0∧regP (zak x.op).2.1 x.b=0∧regP (zak x.op).2.2.1 x.c=0∧((zak x.op).2.2.2=false→x.imm=0)∧immE x.op n x.imm=0:=by
 unfold zhk immE
 generalize zak x.op=f
 generalize regP f.1 x.a=a
 generalize regP f.2.1 x.b=b
 generalize regP f.2.2.1 x.c=c
 by_cases h1:x.op<0∨34≤x.op
 ·rw [if_pos h1]
  exact ⟨fun e=>(by cases e),fun e=>by omega⟩
 rw [if_neg h1]
 by_cases h2:a≠0
 ·rw [if_pos h2]
  exact ⟨fun e=>absurd e h2,fun e=>absurd e.2.1 h2⟩
 rw [if_neg h2]
 by_cases h3:b≠0
 ·rw [if_pos h3]
  exact ⟨fun e=>absurd e h3,fun e=>absurd e.2.2.1 h3⟩
 rw [if_neg h3]
 by_cases h4:c≠0
 ·rw [if_pos h4]
  exact ⟨fun e=>absurd e h4,fun e=>absurd e.2.2.2.1 h4⟩
 rw [if_neg h4]
 by_cases h5:f.2.2.2=false∧x.imm≠0
 ·rw [if_pos h5]
  exact ⟨fun e=>(by cases e),fun e=>absurd (e.2.2.2.2.1 h5.1) h5.2⟩
 rw [if_neg h5]
 have p1:0≤x.op∧x.op<34:=by omega
 have p5:f.2.2.2=false→x.imm=0:=fun e=>Classical.byContradiction fun hn=>h5 ⟨e,hn⟩
 by_cases h6:(x.op=22∨x.op=23)∧(x.imm<0∨n<x.imm)
 ·rw [if_pos h6,if_pos h6]
  exact ⟨fun e=>(by cases e),fun e=>by cases e.2.2.2.2.2⟩
 rw [if_neg h6,if_neg h6]
 by_cases h7:(x.op=29∨x.op=30)∧(x.imm<0∨8≤x.imm)
 ·rw [if_pos h7,if_pos h7]
  exact ⟨fun e=>(by cases e),fun e=>by cases e.2.2.2.2.2⟩
 rw [if_neg h7,if_neg h7]
 exact ⟨fun _=>⟨p1,Classical.not_not.1 h2,Classical.not_not.1 h3,Classical.not_not.1 h4,p5,rfl⟩,fun _=>rfl⟩
theorem Bl.fld {has:Bool} {w r:List UInt8} (hb:Bl r):Bl (fldB has w++r):=by
 cases has with
 | false=>exact hb
 | true=>exact .inr ⟨w++r,rfl⟩
theorem Bl.nil :Bl []:=.inl rfl
theorem zbt2 {k:Nat} (hk:k<34):∀c∈wordL k,c≠32:=by
 intro c hc e
 have:=(zbn2 k hk c hc).1
 rw [e] at this
 exact absurd this (by decide)
theorem zba1 {x:PIns} {n:Int} (hw:(zhk x n 8).1=0) (hi:InI x.imm):insR (lineB x) n=(x,⟨(lineB x).length,0,0⟩):=by
 obtain ⟨⟨h0,h1⟩,ha,hb,hc,hf,he⟩:=wrong_right.1 hw
 obtain ⟨op,a,b,c,imm⟩:=x
 obtain ⟨k,rfl⟩:∃k:Nat,op=k:=⟨op.toNat,by simp only at h0;omega⟩
 simp only at h0 h1 ha hb hc hf he hi
 have hk:k<34:=by omega
 unfold lineB
 simp only [Int.toNat_natCast]
 generalize hF:zak (k:Int)=f at*
 have bD:Bl (fldB f.2.2.2 (numB (k:Int) imm)):=by
  have:=Bl.fld (has:=f.2.2.2) (w:=numB (k:Int) imm) Bl.nil
  rwa [List.append_nil] at this
 have bC:=bD.fld (has:=f.2.2.1) (w:=regB c)
 have bB':=bC.fld (has:=f.2.1) (w:=regB b)
 have bA:=bB'.fld (has:=f.1) (w:=regB a)
 have e0:zhl (wordL k++(fldB f.1 (regB a)++(fldB f.2.1 (regB b)++(fldB f.2.2.1 (regB c)++fldB f.2.2.2 (numB (k:Int) imm))))) 0=wordL k:=by
  unfold zhl
  rw [List.drop_zero]
  exact zob1 (zbt2 hk) bA
 have e1:=zrj1 (P:=wordL k) (b:=0) ha bB'
 have e2:=zrj1 (P:=wordL k++fldB f.1 (regB a)) (b:=0) hb bC
 have e3:=zrj1 (P:=(wordL k++fldB f.1 (regB a))++fldB f.2.1 (regB b)) (b:=0) hc bD
 have e4:=zfa2 (P:=((wordL k++fldB f.1 (regB a))++fldB f.2.1 (regB b))++fldB f.2.2.1 (regB c)) (r:=[]) (b:=0) (op:=k) (n:=n) hf hi (fun _=>he) Bl.nil
 rw [List.append_nil] at e4
 simp only [List.append_assoc] at e1 e2 e3 e4
 unfold insR
 rw [e0,zoe1 hk]
 simp only [hF,e1,e2,e3,e4]
 unfold endR
 rw [if_neg (Nat.lt_irrefl _)]
theorem zfs1 {s:RS} {e:Int} {n:Nat} (he:e≠0):(giveR s e n).e≠0:=by
 unfold giveR
 split
 ·exact he
 ·assumption
theorem zbu2 {l:List UInt8} {n:Int} (h:(insR l n).2.e=0):l=lineB (insR l n).1∧(zhk (insR l n).1 n 8).1=0∧InI (insR l n).1.imm:=by
 cases hq:opOf (zhl l 0) with
 | none=>
  unfold insR at h
  rw [hq] at h
  exact absurd h (by show ¬(9:Int)=0;decide)
 | some k=>
  obtain ⟨hk,hw⟩:=zof1 hq
  have hl:l=wordL k++l.dropWhile (· !=32):=by
   rw [←hw]
   unfold zhl
   rw [List.drop_zero,List.takeWhile_append_dropWhile]
  have bA:=zoc1 l
  have e:insR l n=(let f:=zak (k:Int)
   let p1:=regR l ⟨(wordL k).length,0,0⟩ f.1
   let p2:=regR l p1.2 f.2.1
   let p3:=regR l p2.2 f.2.2.1
   let p4:=restR l n (k:Int) f.2.2.2 p3.2
   (⟨(k:Int),p1.1,p2.1,p3.1,p4.1⟩,endR l p4.2)):=by
   unfold insR
   rw [hq,hw]
  generalize l.dropWhile (· !=32)=r at hl bA
  simp only at e
  generalize hF:zak (k:Int)=f at e
  generalize hp1:regR l ⟨(wordL k).length,0,0⟩ f.1=p1 at e
  generalize hp2:regR l p1.2 f.2.1=p2 at e
  generalize hp3:regR l p2.2 f.2.2.1=p3 at e
  generalize hp4:restR l n (k:Int) f.2.2.2 p3.2=p4 at e
  rw [e] at h ⊢
  simp only at h ⊢
  have c5:p4.2.e=0∧¬p4.2.pos<l.length:=by
   unfold endR at h
   split at h
   ·exact absurd h (zfs1 (by decide))
   ·rename_i hn
    exact ⟨h,hn⟩
  have c3:p3.2.e=0:=Classical.byContradiction fun hn=>hn (by rw [←hp4,zbs2 hn] at c5;exact c5.1)
  have c2:p2.2.e=0:=Classical.byContradiction fun hn=>hn (by rw [←hp3,zun1 hn] at c3;exact c3)
  have c1:p1.2.e=0:=Classical.byContradiction fun hn=>hn (by rw [←hp2,zun1 hn] at c2;exact c2)
  obtain ⟨r1,b1,x1,y1,z1⟩:=zfr1 (P:=wordL k) (b:=0) (has:=f.1) bA (by rw [←hl,hp1];exact c1)
  rw [←hl,hp1] at x1 y1 z1
  subst x1
  rw [←List.append_assoc] at hl
  rw [y1] at hp2
  obtain ⟨r2,b2,x2,y2,z2⟩:=zfr1 (P:=wordL k++fldB f.1 (regB p1.1)) (b:=0) (has:=f.2.1) b1 (by rw [←hl,hp2];exact c2)
  rw [←hl,hp2] at x2 y2 z2
  subst x2
  rw [←List.append_assoc] at hl
  rw [y2] at hp3
  obtain ⟨r3,b3,x3,y3,z3⟩:=zfr1 (P:=(wordL k++fldB f.1 (regB p1.1))++fldB f.2.1 (regB p2.1)) (b:=0) (has:=f.2.2.1) b2 (by rw [←hl,hp3];exact c3)
  rw [←hl,hp3] at x3 y3 z3
  subst x3
  rw [←List.append_assoc] at hl
  rw [y3] at hp4
  obtain ⟨r4,v,b4,x4,y4,z4,z5,z6⟩:=zww1 (P:=((wordL k++fldB f.1 (regB p1.1))++fldB f.2.1 (regB p2.1))++fldB f.2.2.1 (regB p3.1)) (b:=0) (has:=f.2.2.2) (op:=k) (n:=n) b3 (by rw [←hl,hp4];exact c5.1)
  rw [←hl,hp4] at x4
  subst y4
  rw [←List.append_assoc] at hl
  have hr:r4=[]:=by
   have:=c5.2
   rw [x4] at this
   have e2:=congrArg List.length hl
   rw [List.length_append] at e2
   simp only at this
   exact List.length_eq_zero_iff.1 (by omega)
  subst hr
  rw [List.append_nil] at hl
  rw [x4]
  refine ⟨?_,wrong_right.2 ⟨⟨by show (0:Int)≤k;omega,by show (k:Int)<34;omega⟩,by show regP (zak (k:Int)).1 _=0;rw [hF];exact z1,by show regP (zak (k:Int)).2.1 _=0;rw [hF];exact z2,by show regP (zak (k:Int)).2.2.1 _=0;rw [hF];exact z3,by show (zak (k:Int)).2.2.2=false→_;rw [hF];exact z5,?_⟩,z4⟩
  ·rw [hl]
   unfold lineB
   simp only [Int.toNat_natCast,hF,List.append_assoc]
  ·show immE (k:Int) n v=0
   cases h4:f.2.2.2 with
   | true=>exact z6 h4
   | false=>
    rw [z5 h4]
    have:f=zak (k:Int):=hF.symm
    unfold immE
    rw [if_neg,if_neg]
    ·rintro ⟨o, -⟩
     rw [this] at h4
     rcases o with o | o<;>rw [o] at h4<;>exact absurd h4 (by decide)
    ·rintro ⟨o, -⟩
     rw [this] at h4
     rcases o with o | o<;>rw [o] at h4<;>exact absurd h4 (by decide)
theorem zkz1 {has:Bool} {w:List UInt8} (h:∀c∈w,45≤c.toNat):∀c∈fldB has w,32≤c.toNat:=by
 intro c hc
 unfold fldB at hc
 split at hc
 ·rcases List.mem_cons.1 hc with rfl | hc
  ·decide
  ·have:=h c hc;omega
 ·cases hc
theorem zrk1 (n:Int):∀c∈regB n,45≤c.toNat:=by
 intro c hc
 unfold regB at hc
 rcases List.mem_cons.1 hc with rfl | hc
 ·decide
 ·exact (zri1 n c hc).1
theorem zfb2 {x:PIns} (h:0≤x.op∧x.op<34):∀c∈lineB x,32≤c.toNat:=by
 intro c hc
 unfold lineB at hc
 simp only [List.mem_append] at hc
 rcases hc with hc | hc | hc | hc | hc
 ·have:=(zbn2 _ (by omega) c hc).1;omega
 ·exact zkz1 (zrk1 _) c hc
 ·exact zkz1 (zrk1 _) c hc
 ·exact zkz1 (zrk1 _) c hc
 ·exact zkz1 (fun c h=>(zbr2 _ _ c h).1) c hc
theorem zft1 {x:PIns} (h:0≤x.op∧x.op<34):∀c∈lineB x,c≠10:=by
 intro c hc e
 have:=zfb2 h c hc
 rw [e] at this
 exact absurd this (by decide)
theorem zfc2 {x y:PIns} {n:Int} (hx:(zhk x n 8).1=0) (ix:InI x.imm) (hy:(zhk y n 8).1=0) (iy:InI y.imm) (h:lineB x=lineB y):x=y:=by
 have:=zba1 hx ix
 rw [h,zba1 hy iy] at this
 exact (congrArg Prod.fst this).symm
def zfu1 (n:Int) (l:List PIns):Prop:=∀x∈l,(zhk x n 8).1=0∧InI x.imm
theorem zla1 {n:Int}:∀(l:List PIns) (i:Int),(codeR n 8 l i).1=0↔∀x∈l,(zhk x n 8).1=0
 | [],_=>⟨fun _ x hx=>(by cases hx),fun _=>rfl⟩
 | x::l,i=>by
  unfold codeR
  split
  ·rename_i h
   exact ⟨fun e=>absurd e h,fun e=>absurd (e x (List.mem_cons_self ..)) h⟩
  ·rename_i h
   have h:=Classical.not_not.1 h
   rw [zla1 l (i+1)]
   exact ⟨fun e y hy=>(by rcases List.mem_cons.1 hy with rfl | hy;exact h;exact e y hy),fun e y hy=>e y (List.mem_cons_of_mem _ hy)⟩
theorem codeP_ok {l:List PIns}:(codeP l 8).1=0↔l.length≤256∧∀x∈l,(zhk x l.length 8).1=0:=by
 unfold codeP
 rw [if_neg (by decide)]
 split
 ·rename_i h
  exact ⟨fun e=>(by cases e),fun e=>by omega⟩
 ·rename_i h
  rw [zla1]
  exact ⟨fun e=>⟨by omega,e⟩,fun e=>e.2⟩
theorem zjo (x:PIns) (l:List PIns):progB (x::l)=lineB x++10::progB l:=by
 unfold progB
 rw [List.flatMap_cons,List.append_assoc]
 rfl
theorem zwx1 {s:List UInt8} (h:∀c∈s,c≠10):s.count 10=0:=List.count_eq_zero.2 fun hc=>h _ hc rfl
theorem zcc1 :∀(l:List PIns),(∀x∈l,0≤x.op∧x.op<34)→(progB l).count 10=l.length
 | [],_=>rfl
 | x::l,h=>by
  rw [zjo,List.count_append,List.count_cons,zwx1 (zft1 (h x (List.mem_cons_self ..))),zcc1 l fun y hy=>h y (List.mem_cons_of_mem _ hy)]
  simp
theorem zbv2 {F r:List UInt8} (hF:∀c∈F,c≠10):(F++10::r).takeWhile (· !=10)=F:=by
 rw [List.takeWhile_append_of_pos (fun c hc=>bne_iff_ne.2 (hF c hc))]
 simp
theorem zfv1 {n:Int}:∀(l:List PIns) (acc:List PIns) (i:Int) (k:Nat),zfu1 n l→i+l.length≤257→(progB l).length<k→zjs n k (progB l) i acc=(acc++l,0,0,0)
 | [],acc,i,k+1,_,_,_=>by
  unfold zjs
  rw [List.append_nil]
  exact if_pos rfl
 | x::l,acc,i,k+1,hr,hi,hk=>by
  obtain ⟨hw,hx⟩:=hr x (List.mem_cons_self ..)
  have hop:=(wrong_right.1 hw).1
  rw [zjo] at hk ⊢
  rw [List.length_append,List.length_cons] at hk
  rw [List.length_cons] at hi
  unfold zjs
  rw [if_neg (by simp),if_neg (by omega)]
  simp only [zbv2 (zft1 hop)]
  rw [zba1 hw hx]
  have e:(lineB x++10::progB l).drop ((lineB x).length+1)=progB l:=by
   rw [show lineB x++10::progB l=(lineB x++ [10])++progB l by simp]
   exact List.drop_left' (by simp)
  have c1:¬(lineB x).length=(lineB x++10::progB l).length:=by rw [List.length_append,List.length_cons];omega
  simp only [if_neg c1]
  rw [if_neg (by simp),e,zfv1 l (acc++ [x]) (i+1) k (fun y hy=>hr y (List.mem_cons_of_mem _ hy)) (by omega) (by omega),List.append_assoc]
  rfl
theorem zfw1 {l:List PIns} (h:(codeP l 8).1=0) (hi:∀x∈l,InI x.imm):zia (progB l)=(l,0,0,0):=by
 obtain ⟨h1,h2⟩:=codeP_ok.1 h
 unfold zia
 rw [zcc1 l fun x hx=>(wrong_right.1 (h2 x hx)).1]
 rw [zfv1 l [] 1 _ (fun x hx=>⟨h2 x hx,hi x hx⟩) (by omega) (Nat.lt_succ_self _)]
 rfl
theorem zfd2 (r:List UInt8) (h:(r.takeWhile (· !=10)).length≠r.length):r=r.takeWhile (· !=10)++10::r.drop ((r.takeWhile (· !=10)).length+1):=by
 induction r with
 | nil=>exact absurd rfl h
 | cons c r ih=>
  rw [List.takeWhile_cons] at h ⊢
  split
  ·rename_i hc
   rw [if_pos hc] at h
   rw [List.length_cons,List.drop_succ_cons,List.cons_append,←ih (by simpa using h)]
  ·rename_i hc
   have:c=10:=by simpa using hc
   rw [this]
   rfl
theorem zfx1 {n:Int}:∀(k:Nat) (r:List UInt8) (i:Int) (acc:List PIns),r.length<k→i≤257→(zjs n k r i acc).2.1=0→(zjs n k r i acc).2.2=(0,0)∧∃l,(zjs n k r i acc).1=acc++l∧r=progB l∧zfu1 n l∧i+l.length≤257
 | k+1,r,i,acc,hk,hi,h=>by
  unfold zjs at h ⊢
  by_cases h0:r=[]
  ·subst h0
   rw [if_pos rfl]
   exact ⟨rfl,[],by simp,rfl,(fun x hx=>by cases hx),by simpa using hi⟩
  rw [if_neg h0] at h ⊢
  by_cases h1:256<i
  ·rw [if_pos h1] at h
   cases h
  rw [if_neg h1] at h ⊢
  simp only at h ⊢
  by_cases h2:(r.takeWhile (· !=10)).length=r.length
  ·rw [if_pos h2] at h
   rw [if_pos (zfs1 (by decide))] at h
   exact absurd h (zfs1 (by decide))
  rw [if_neg h2] at h ⊢
  by_cases h3:(insR (r.takeWhile (· !=10)) n).2.e≠0
  ·rw [if_pos h3] at h
   exact absurd h h3
  rw [if_neg h3] at h ⊢
  obtain ⟨b1,b2,b3⟩:=zbu2 (Classical.not_not.1 h3)
  have hc:=zfd2 r h2
  have hl:(r.drop ((r.takeWhile (· !=10)).length+1)).length<k:=by
   rw [List.length_drop]
   have:0<r.length:=List.length_pos_iff.2 h0
   omega
  obtain ⟨e1,l,e2,e3,e4,e5⟩:=zfx1 k _ (i+1) _ hl (by omega) h
  refine ⟨e1,(insR (r.takeWhile (· !=10)) n).1::l,?_,?_,?_,by rw [List.length_cons];omega⟩
  ·rw [e2,List.append_assoc]
   rfl
  ·rw [zjo,←b1,←e3]
   exact hc
  ·intro y hy
   rcases List.mem_cons.1 hy with rfl | hy
   ·exact ⟨b2,b3⟩
   ·exact e4 y hy
theorem zrl1 {t:List UInt8} (h:(zia t).2.1=0):(zia t).2.2=(0,0)∧t=progB (zia t).1∧(codeP (zia t).1 8).1=0∧∀x∈(zia t).1,InI x.imm:=by
 unfold zia at h ⊢
 obtain ⟨e1,l,e2,e3,e4,e5⟩:=zfx1 _ _ _ _ (Nat.lt_succ_self _) (by decide) h
 rw [List.nil_append] at e2
 rw [e2]
 have hc:t.count 10=l.length:=by
  rw [e3]
  exact zcc1 l fun x hx=>(wrong_right.1 (e4 x hx).1).1
 rw [hc] at e4
 exact ⟨e1,e3,codeP_ok.2 ⟨by omega,fun x hx=>(e4 x hx).1⟩,fun x hx=>(e4 x hx).2⟩
theorem zuj (l:List UInt8) (n:Nat):(zhl l n).length≤l.length-n:=by
 unfold zhl
 have:=(List.takeWhile_prefix (p:=(· !=32)) (l:=l.drop n)).length_le
 rw [List.length_drop] at this
 exact this
def InR (l:List UInt8) (s:RS):Prop:=s.pos≤l.length∧s.bad≤l.length
theorem zoh1 {l:List UInt8} {s:RS} (h:InR l s):InR l (zhf l s).2∧∀w f,(zhf l s).1=some (w,f)→f≤l.length:=by
 unfold zhf
 split
 ·exact ⟨h,fun _ _ e=>(by cases e)⟩
 ·split
  ·exact ⟨⟨h.1,h.1⟩,fun _ _ e=>(by cases e)⟩
  ·rename_i hn
   have h1:=h.1
   have h2:=zuj l (s.pos+1)
   refine ⟨⟨?_,h.2⟩,fun w f e=> ?_⟩
   ·show s.pos+1+_≤_
    omega
   ·cases e
    omega
theorem zcd1 {l:List UInt8} {s:RS} {has:Bool} (h:InR l s):InR l (regR l s has).2:=by
 unfold regR
 split
 ·exact h
 ·obtain ⟨h1,h2⟩:=zoh1 h
  cases hq:zhf l s with
  | mk o s'=>
   rw [hq] at h1 h2
   cases o with
   | none=>exact h1
   | some p=>
    obtain ⟨w,f⟩:=p
    show InR l (match regOf w with | some n=>((n:Int),s') | none=>((0:Int),(⟨s'.pos,10,f⟩:RS))).2
    cases regOf w with
    | none=>exact ⟨h1.1,h2 w f rfl⟩
    | some n=>exact h1
theorem zuo1 {l:List UInt8} {s:RS} {has:Bool} {n op:Int} (h:InR l s):InR l (restR l n op has s).2:=by
 unfold restR
 split
 ·unfold immR
  obtain ⟨h1,h2⟩:=zoh1 h
  cases hq:zhf l s with
  | mk o s'=>
   rw [hq] at h1 h2
   cases o with
   | none=>exact h1
   | some p=>
    obtain ⟨w,f⟩:=p
    show InR l (match immOf op w with | none=>((0:Int),(⟨s'.pos,4,f⟩:RS)) | some v=>if immE op n v=0 then (v,s') else (0,⟨s'.pos,immE op n v,f⟩)).2
    cases immOf op w with
    | none=>exact ⟨h1.1,h2 w f rfl⟩
    | some v=>
     show InR l (if immE op n v=0 then (v,s') else ((0:Int),(⟨s'.pos,immE op n v,f⟩:RS))).2
     split
     ·exact h1
     ·exact ⟨h1.1,h2 w f rfl⟩
 ·exact h
theorem zup1 {l:List UInt8} {s:RS} {e:Int} {n:Nat} (h:InR l s) (hn:n≤l.length):InR l (giveR s e n):=by
 unfold giveR
 split
 ·exact ⟨h.1,hn⟩
 ·exact h
theorem zbw2 {l:List UInt8} {n:Int}:InR l (insR l n).2:=by
 unfold insR
 split
 ·exact ⟨Nat.zero_le _,Nat.zero_le _⟩
 ·rename_i k hk
  have h0:InR l ⟨(zhl l 0).length,0,0⟩:=⟨by have:=zuj l 0;show (zhl l 0).length≤_;omega,Nat.zero_le _⟩
  have h4:=zuo1 (n:=n) (op:=(k:Int)) (has:=(zak (k:Int)).2.2.2) (zcd1 (has:=(zak (k:Int)).2.2.1) (zcd1 (has:=(zak (k:Int)).2.1) (zcd1 (has:=(zak (k:Int)).1) h0)))
  simp only
  unfold endR
  split
  ·exact zup1 h4 h4.1
  ·exact h4
theorem zik1 {n:Int} {N:Nat}:∀(k:Nat) (r:List UInt8) (i:Int) (acc:List PIns),1≤i→r.length≤N→(zjs n k r i acc).2.1≠0→(zjs n k r i acc).1=[]∧1≤(zjs n k r i acc).2.2.1∧0≤(zjs n k r i acc).2.2.2∧(zjs n k r i acc).2.2.2≤(N:Int)
 | 0,r,i,acc,_,_,h=>absurd rfl h
 | k+1,r,i,acc,hi,hr,h=>by
  unfold zjs at h ⊢
  by_cases h0:r=[]
  ·rw [if_pos h0] at h
   exact absurd rfl h
  rw [if_neg h0] at h ⊢
  by_cases h1:256<i
  ·rw [if_pos h1]
   exact ⟨rfl,hi,Int.le_refl _,Int.natCast_nonneg _⟩
  rw [if_neg h1] at h ⊢
  simp only at h ⊢
  have hp:=(List.takeWhile_prefix (p:=(· !=10)) (l:=r)).length_le
  have hin:InR (r.takeWhile (· !=10)) (if (r.takeWhile (· !=10)).length=r.length then giveR (insR (r.takeWhile (· !=10)) n).2 5 (r.takeWhile (· !=10)).length else (insR (r.takeWhile (· !=10)) n).2):=by
   split
   ·exact zup1 zbw2 (Nat.le_refl _)
   ·exact zbw2
  generalize (if (r.takeWhile (· !=10)).length=r.length then giveR (insR (r.takeWhile (· !=10)) n).2 5 (r.takeWhile (· !=10)).length else (insR (r.takeWhile (· !=10)) n).2)=st at*
  by_cases h3:st.e≠0
  ·rw [if_pos h3]
   have:=hin.2
   exact ⟨rfl,hi,by show (0:Int)≤(st.bad:Int);omega,by show (st.bad:Int)≤_;omega⟩
  ·rw [if_neg h3] at h ⊢
   exact zik1 k _ _ _ (by omega) (by rw [List.length_drop];omega) h
theorem zwy1 {t:List UInt8} (h:(zia t).2.1≠0):(zia t).1=[]∧1≤(zia t).2.2.1∧0≤(zia t).2.2.2∧(zia t).2.2.2≤(t.length:Int):=zik1 _ _ _ _ (by decide) (Nat.le_refl _) h
end Lf

namespace Go.Proofs
open Go.Shelf
def Tryz.laysC247_ren :Go.Shelf.Ren:=⟨fun | 247=>98 | 287=>63 | 321=>107 | 322=>108 | n=>n,fun | 9=>9 | 3=>3 | 2=>2 | 75=>56 | 4=>4 | 167=>122 | 5=>5 | 53=>51 | 175=>62 | 46=>67 | 37=>74 | 0=>0 | 21=>21 | 80=>78 | n=>n,fun | n=>n⟩
theorem Tryz.laysC247 :Go.Proofs.LaysC.n247 Tryz.prog Tryz.laysC247_ren:={
 mixed:=by kernel_rfl
 f247:=Tryz.func98.trans (congrArg some (by kernel_rfl))
 f287:=Tryz.func63.trans (congrArg some (by kernel_rfl))
 f321:=Tryz.func107.trans (congrArg some (by kernel_rfl))
 f322:=Tryz.func108.trans (congrArg some (by kernel_rfl))
 t0:=Tryz.underlying0
 a0:=Tryz.isAgg0
 z0:=Tryz.sizeOf0
 v0:=Tryz.zeroValue0
 t2:=Tryz.underlying2
 a2:=Tryz.isAgg2
 z2:=Tryz.sizeOf2
 v2:=Tryz.zeroValue2
 t3:=Tryz.underlying3
 a3:=Tryz.isAgg3
 z3:=Tryz.sizeOf3
 v3:=Tryz.zeroValue3
 t4:=Tryz.underlying4
 a4:=Tryz.isAgg4
 z4:=Tryz.sizeOf4
 v4:=Tryz.zeroValue4
 t5:=Tryz.underlying5
 a5:=Tryz.isAgg5
 z5:=Tryz.sizeOf5
 v5:=Tryz.zeroValue5
 t9:=Tryz.underlying9
 a9:=Tryz.isAgg9
 z9:=Tryz.sizeOf9
 v9:=Tryz.zeroValue9
 t21:=Tryz.underlying21
 a21:=Tryz.isAgg21
 z21:=Tryz.sizeOf21
 v21:=Tryz.zeroValue21
 t37:=Tryz.underlying74
 a37:=Tryz.isAgg74
 z37:=Tryz.sizeOf74
 v37:=Tryz.zeroValue74
 t46:=Tryz.underlying67
 a46:=Tryz.isAgg67
 z46:=Tryz.sizeOf67
 v46:=Tryz.zeroValue67
 t53:=Tryz.underlying51
 a53:=Tryz.isAgg51
 z53:=Tryz.sizeOf51
 v53:=Tryz.zeroValue51
 t75:=Tryz.underlying56
 a75:=Tryz.isAgg56
 z75:=Tryz.sizeOf56
 v75:=Tryz.zeroValue56
 t167:=Tryz.underlying122
 a167:=Tryz.isAgg122
 z167:=Tryz.sizeOf122
 v167:=Tryz.zeroValue122
 t175:=Tryz.underlying62
 a175:=Tryz.isAgg62
 z175:=Tryz.sizeOf62
 v175:=Tryz.zeroValue62
 t80:=Tryz.underlying78
 a80:=Tryz.isAgg78
 z80:=Tryz.sizeOf78
 v80:=Tryz.zeroValue78
 i0:=by kernel_rfl
 i2:=by kernel_rfl
 i3:=by kernel_rfl
 i4:=by kernel_rfl
 i5:=by kernel_rfl
 i9:=by kernel_rfl
 i21:=by kernel_rfl
 i37:=by kernel_rfl
 i46:=by kernel_rfl
 i53:=by kernel_rfl
 i75:=by kernel_rfl
 i80:=by kernel_rfl
 i167:=by kernel_rfl
 i175:=by kernel_rfl
 c0:=by kernel_rfl
 c2:=by kernel_rfl
 c3:=by kernel_rfl
 c4:=by kernel_rfl
 c5:=by kernel_rfl
 c9:=by kernel_rfl
 c21:=by kernel_rfl
 c37:=by kernel_rfl
 c46:=by kernel_rfl
 c53:=by kernel_rfl
 c75:=by kernel_rfl
 c80:=by kernel_rfl
 c167:=by kernel_rfl
 c175:=by kernel_rfl}
open Go.RowKit in
theorem Tryz.internal_strconv_ParseInt_10_all64 (s:ByteArray) (hmax:s.size≤9223372036854775806) (w:World):
  Calls Tryz.prog 98 #[.string s,.int .i64 10,.int .i64 64] w fun e w'=>e=.returned (Lib.intTuple 122 (Lib.intSat 64 s.data.toList) (Lib.parseIntB 64 s.data.toList))∧(w'=w∨∃t,w'=Lib.bytesWorld w 5 t):=Any.internal_strconv_ParseInt_10_all64 Tryz.laysC247 s hmax w
def Tryz.lays144_ren :Go.Shelf.Ren:=⟨fun | 144=>115 | 143=>80 | 219=>95 | 217=>131 | 225=>132 | 224=>133 | 267=>134 | 266=>165 | 314=>166 | n=>n,fun | 9=>9 | 4=>4 | 3=>3 | 5=>5 | 46=>67 | 146=>149 | 51=>148 | n=>n,fun | 1=>1 | n=>n⟩
theorem Tryz.lays144 :Go.Proofs.Lays.n144 Tryz.prog Tryz.lays144_ren:={
 mixed:=by kernel_rfl
 f143:=Tryz.func80.trans (congrArg some (by kernel_rfl))
 f144:=Tryz.func115.trans (congrArg some (by kernel_rfl))
 f217:=Tryz.func131.trans (congrArg some (by kernel_rfl))
 f219:=Tryz.func95.trans (congrArg some (by kernel_rfl))
 f224:=Tryz.func133.trans (congrArg some (by kernel_rfl))
 f225:=Tryz.func132.trans (congrArg some (by kernel_rfl))
 f266:=Tryz.func165.trans (congrArg some (by kernel_rfl))
 f267:=Tryz.func134.trans (congrArg some (by kernel_rfl))
 f314:=Tryz.func166.trans (congrArg some (by kernel_rfl))
 t3:=Tryz.underlying3
 a3:=Tryz.isAgg3
 z3:=Tryz.sizeOf3
 v3:=Tryz.zeroValue3
 t4:=Tryz.underlying4
 a4:=Tryz.isAgg4
 z4:=Tryz.sizeOf4
 v4:=Tryz.zeroValue4
 t5:=Tryz.underlying5
 a5:=Tryz.isAgg5
 z5:=Tryz.sizeOf5
 v5:=Tryz.zeroValue5
 t9:=Tryz.underlying9
 a9:=Tryz.isAgg9
 z9:=Tryz.sizeOf9
 v9:=Tryz.zeroValue9
 t46:=Tryz.underlying67
 a46:=Tryz.isAgg67
 z46:=Tryz.sizeOf67
 v46:=Tryz.zeroValue67
 t51:=Tryz.underlying148
 a51:=Tryz.isAgg148
 z51:=Tryz.sizeOf148
 v51:=Tryz.zeroValue148
 t146:=Tryz.underlying149
 a146:=Tryz.isAgg149
 z146:=Tryz.sizeOf149
 v146:=Tryz.zeroValue149
 g1:=by kernel_rfl}
open Go.RowKit Go.Lib in
theorem Tryz.strings_Contains_one (s:ByteArray) (c:UInt8) (w:World):
  Calls Tryz.prog 115 #[.string s,.string ⟨#[c]⟩] w fun e w'=>e=.returned (.bool (decide (0≤Lib.indexByte s.data.toList c)))∧w'=w:=Any.strings_Contains_one Tryz.lays144 s c w
def Tryz.lays138_ren :Go.Shelf.Ren:=⟨fun | 138=>47 | 195=>78 | 218=>79 | 143=>80 | 219=>95 | 217=>131 | 225=>132 | 224=>133 | 267=>134 | 266=>165 | 314=>166 | n=>n,fun | 9=>9 | 3=>3 | 4=>4 | 5=>5 | 0=>0 | 46=>67 | 146=>149 | 51=>148 | n=>n,fun | 1=>1 | n=>n⟩
theorem Tryz.lays138 :Go.Proofs.Lays.n138 Tryz.prog Tryz.lays138_ren:={
 mixed:=by kernel_rfl
 f138:=Tryz.func47.trans (congrArg some (by kernel_rfl))
 f143:=Tryz.func80.trans (congrArg some (by kernel_rfl))
 f195:=Tryz.func78.trans (congrArg some (by kernel_rfl))
 f217:=Tryz.func131.trans (congrArg some (by kernel_rfl))
 f218:=Tryz.func79.trans (congrArg some (by kernel_rfl))
 f219:=Tryz.func95.trans (congrArg some (by kernel_rfl))
 f224:=Tryz.func133.trans (congrArg some (by kernel_rfl))
 f225:=Tryz.func132.trans (congrArg some (by kernel_rfl))
 f266:=Tryz.func165.trans (congrArg some (by kernel_rfl))
 f267:=Tryz.func134.trans (congrArg some (by kernel_rfl))
 f314:=Tryz.func166.trans (congrArg some (by kernel_rfl))
 t0:=Tryz.underlying0
 a0:=Tryz.isAgg0
 z0:=Tryz.sizeOf0
 v0:=Tryz.zeroValue0
 t3:=Tryz.underlying3
 a3:=Tryz.isAgg3
 z3:=Tryz.sizeOf3
 v3:=Tryz.zeroValue3
 t4:=Tryz.underlying4
 a4:=Tryz.isAgg4
 z4:=Tryz.sizeOf4
 v4:=Tryz.zeroValue4
 t5:=Tryz.underlying5
 a5:=Tryz.isAgg5
 z5:=Tryz.sizeOf5
 v5:=Tryz.zeroValue5
 t9:=Tryz.underlying9
 a9:=Tryz.isAgg9
 z9:=Tryz.sizeOf9
 v9:=Tryz.zeroValue9
 t46:=Tryz.underlying67
 a46:=Tryz.isAgg67
 z46:=Tryz.sizeOf67
 v46:=Tryz.zeroValue67
 t51:=Tryz.underlying148
 a51:=Tryz.isAgg148
 z51:=Tryz.sizeOf148
 v51:=Tryz.zeroValue148
 t146:=Tryz.underlying149
 a146:=Tryz.isAgg149
 z146:=Tryz.sizeOf149
 v146:=Tryz.zeroValue149
 g1:=by kernel_rfl}
open Go.RowKit Go.Lib in
theorem Tryz.strings_Count_one (s:ByteArray) (c:UInt8) (w:World):
  Calls Tryz.prog 47 #[.string s,.string ⟨#[c]⟩] w fun e w'=>e=.returned (.int .i64 (Lib.countByte s.data.toList c))∧w'=w:=Any.strings_Count_one Tryz.lays138 s c w
end Go.Proofs

namespace Lf
structure zju2 where
 tick:Int
 proc:Int
 value:Int
structure zip2 where
 proc:Int
 value:Int
structure PLane where
 values:List Int
 waiters:List zip2
 taken:Int
 dropped:Int
structure zfe2 where
 state:Int
 pc:Int
 regs:List Int
 cursor:Int
 timer:Int
 fired:Bool
 wake:Int
 lanes:List PLane
structure PPart where
 cursor:Int
 log:List zju2
 lost:Int
 forbidden:Int
 owners:List Int
 queues:List (List Int)
structure zjv2 where
 tick:Int
 parts:List PPart
 procs:List zfe2
section
variable (c:PCfg) (s:zjv2)
end
end Lf



namespace Lf
abbrev D (α:Type):Type:=List UInt8→Nat→Except (Int×Nat) (α×Nat)
namespace D
variable {α β:Type}
def ret (x:α):D α:=fun _ at_=>.ok (x,at_)
def bind (d:D α) (f:α→D β):D β:=fun b at_=>match d b at_ with
 | .ok (x,at2)=>f x b at2
 | .error e=>.error e
def must (d:D α) (wrong:α→Int):D α:=fun b at_=>match d b at_ with
 | .ok (x,at2)=>if wrong x=0 then .ok (x,at2) else .error (wrong x,at_)
 | .error e=>.error e
def many (d:List α→D α):Nat→List α→D (List α)
 | 0,acc=>ret acc
 | n+1,acc=>bind (d acc) fun x=>many d n (acc++ [x])
def map (f:α→β) (d:D α):D β:=bind d fun x=>ret (f x)
end D
end Lf

namespace Lf
namespace D
variable {α γ:Type}
end D
open D
def i64 (n:Nat):Int:=if n<9223372036854775808 then n else (n:Int)-18446744073709551616
end Lf

namespace Lf
abbrev By (k:Nat) (x:Int):Prop:=0≤x∧x<((256^k:Nat):Int)
end Lf

namespace Lf
def less (n:Int):Int:=n-1
end Lf









namespace Lf
open Go Go.Proofs Go.RowKit
theorem zil1 {P:Program} {g:FuncId} {args:List Value} {sh:Shape} {K:sh.T→Hp→Prop} {h:Hp} {x:sh.T} (hc:∀w,Sub h w→Calls P g args.toArray w fun e w'=>e=.returned (sh.enc x)∧w'=w) (hk:K x h):CallT P g args sh K h:=by
 intro w hs
 refine (hc w hs).mono ?_
 rintro e w' ⟨rfl,rfl⟩
 exact ⟨_,h,rfl,⟨x,rfl,hk⟩,⟨hs,Nat.le_refl _,fun i hi hn=>⟨rfl,hn⟩,rfl,rfl,rfl⟩⟩
def hasC (s:ByteArray) (c:UInt8):Bool:=decide (0≤Lib.indexByte s.data.toList c)
theorem zrm1 {s:ByteArray} {c:UInt8} {K:Bool→Hp→Prop} {h:Hp} (hk:K (hasC s c) h):CallT Tryz.prog zsa [.string s,.string ⟨#[c]⟩] zad K h:=by
 refine zil1 (x:=hasC s c) (fun w _=> ?_) hk
 exact Tryz.strings_Contains_one s c w
def insOf (x:S_api_Ins):PIns:=⟨x.Op,x.A,x.B,x.C,x.Imm⟩
def fieldTab :List (List UInt8):=[[],[97,105],[97,98],[97,98,99],[97,98,99],[97,98,99],[97,98,99],[97,98,99],[97,98,99],[97,98,99],[97,98,99],[97,98,99],[97,98,99],[97,98,99],[97,98,99],[97,98,99],[97,98,99],[97,98,99],[97,98,99],[97,98,99],[97,98],[97,98],[105],[97,105],[97,98,99],[97,98],[97,98],[97],[97],[105],[105],[97],[97],[97]]
def zjp (op:Int):ByteArray:=if 0≤op∧op<34 then ⟨(fieldTab.getD op.toNat []).toArray⟩ else ⟨#[]⟩
theorem zrn1 :∀n,n<34→(decide (0≤Lib.indexByte (fieldTab.getD n []) 97),decide (0≤Lib.indexByte (fieldTab.getD n []) 98),decide (0≤Lib.indexByte (fieldTab.getD n []) 99),decide (0≤Lib.indexByte (fieldTab.getD n []) 105))=zak (n:Int):=by decide
theorem zwz1 (op:Int):(hasC (zjp op) 97,hasC (zjp op) 98,hasC (zjp op) 99,hasC (zjp op) 105)=zak op:=by
 by_cases h:0≤op∧op<34
 ·have e:=zrn1 op.toNat (by omega)
  rw [Int.toNat_of_nonneg h.1] at e
  rw [←e]
  simp [hasC,zjp,h]
 ·have e1:zjp op=⟨#[]⟩:=if_neg h
  rw [e1]
  have e2:zak op=(false,false,false,false):=by
   unfold zak
   grind
  rw [e2]
  decide
theorem ziq2 :∀n,n<34→fieldTab[n]? =some (fieldTab.getD n []):=by decide
theorem zco1 {α:Type} (l:List α) (i:Nat):List.get?Internal l i=l[i]?:=by
 simp
theorem zlb1 {op:Int} {Q:ByteArray→Hp→Prop} {h:Hp} (hq:Q (zjp op) h):zvc Tryz.prog op Q h:=by
 unfold zvc
 refine letW ?_
 by_cases h0:0≤op∧op<34
 ·rw [if_neg (by simp;omega)]
  refine ⟨h0,zjp op,?_,hq⟩
  have e:zjp op=⟨(fieldTab.getD op.toNat []).toArray⟩:=if_pos h0
  rw [zco1,e]
  have e2:=ziq2 op.toNat (by omega)
  rw [Nat.mul_one]
  have e3:(fieldTab.map fun l=>Value.string ⟨l.toArray⟩)[op.toNat]? =some (Value.string ⟨(fieldTab.getD op.toNat []).toArray⟩):=by grind
  exact e3
 ·rw [if_pos (by simp;omega)]
  have e:zjp op=⟨#[]⟩:=if_neg h0
  grind
theorem zuq1 {P:Program} {g:FuncId} {first captured:Array Value} {args:List Value} {sh:Shape} {K:sh.T→Hp→Prop} {h:Hp} (hg:tb.call g=true) (hc:CallT P g (first.toList++args++captured.toList) sh K h):CallV P tb (.func (.func g) first captured) args sh K h:=
 ⟨g,first,captured,rfl,hg,hc⟩
theorem zvq {op:Int} {Q:Bool→Bool→Bool→Bool→Hp→Prop} {h:Hp} (hq:∀h',h≤h'→Q (zak op).1 (zak op).2.1 (zak op).2.2.1 (zak op).2.2.2 h'):zva Tryz.prog op Q h:=by
 unfold zva
 refine zcw1 (zlb1 ?_)
 intro b t hn
 refine zpt1 (b:=b) (off:=0) (cs:=[.string ⟨#[]⟩]) ⟨t,zec⟩ (by simp) fun h3 hm hb=> ?_
 have hle:h≤h3:=(((Mv.new hn).trans hm).le (Hp.le_refl h) (by simp)).1
 have hl:LdIs h3 ⟨b,0,none⟩ [.string (zjp op)]:=hb.ldIs (n:=1) (by rfl)
 have one:∀(c:UInt8) (K:Bool→Hp→Prop),K (hasC (zjp op) c) h3→CallV Tryz.prog tb (.func (.func zws) #[] #[.pointer (some ⟨b,0,none⟩)]) [.string ⟨#[c]⟩] zad K h3:=fun c K hk=>by
  refine zuq1 rfl (zap1 ?_)
  unfold zww
  refine ld_at (sh:=shStr) (zjp op) hl ?_
  exact zrm1 hk
 have e:=zwz1 op
 grind
theorem zzq {P:Program} {has:Bool} {n:Int} {Q:Int→Hp→Prop} {h:Hp} (hq:Q (regP has n) h):zqw P has n Q h:=by
 unfold zqw
 refine letW ?_
 unfold regP at hq
 by_cases h1:has=false∧n≠0
 ·grind
 ·rw [if_neg h1] at hq
  rw [if_neg (by cases has<;>simp at h1 ⊢;exact h1)]
  refine letW ?_
  grind
theorem zbx2 {P:Program} {x:S_api_Ins} {has:Bool} {n locks:Int} {Q:Int→Hp→Prop} {h:Hp}
  (hq:Q (if has=false∧x.Imm≠0 then 11 else if (x.Op=22∨x.Op=23)∧(x.Imm<0∨n<x.Imm) then 12 else if (x.Op=29∨x.Op=30)∧(x.Imm<0∨locks≤x.Imm) then 13 else 0) h):zvb P x has n locks Q h:=by
 unfold zvb
 refine letW ?_
 by_cases h1:has=false∧x.Imm≠0
 ·grind
 ·rw [if_neg h1] at hq
  rw [if_neg (by cases has<;>simp at h1 ⊢;exact h1)]
  refine letW ?_
  by_cases h2:x.Op=22∨x.Op=23
  ·rw [if_pos (by simp;exact h2)]
   refine letW ?_
   grind
  ·rw [if_neg (fun e=>h2 e.1)] at hq
   rw [if_neg (by simp;omega)]
   refine letW ?_
   by_cases h4:x.Op=29∨x.Op=30
   ·rw [if_pos (by simp;exact h4)]
    refine letW ?_
    by_cases h5:x.Imm<0∨locks≤x.Imm
    ·rw [if_pos ⟨h4,h5⟩] at hq
     rw [if_pos (by simp;omega)]
     exact hq
    ·rw [if_neg (fun e=>h5 e.2)] at hq
     rw [if_neg (by simp;omega)]
     exact hq
   grind
theorem zff2 {x:S_api_Ins} {n locks:Int} {Q:Int→Int→Hp→Prop} {h:Hp} (hq:∀h' at_,h≤h'→((zhk (insOf x) n locks).1≠0→at_=(zhk (insOf x) n locks).2)→Q (zhk (insOf x) n locks).1 at_ h'):zwu Tryz.prog x n locks Q h:=by
 unfold zwu
 refine letW ?_
 have le:=Hp.le_refl h
 rw [show zhk (insOf x) n locks=(if x.Op<0∨34≤x.Op then (9,0)
  else if regP (zak x.Op).1 x.A≠0 then (regP (zak x.Op).1 x.A,1)
  else if regP (zak x.Op).2.1 x.B≠0 then (regP (zak x.Op).2.1 x.B,2)
  else if regP (zak x.Op).2.2.1 x.C≠0 then (regP (zak x.Op).2.2.1 x.C,3)
  else if (zak x.Op).2.2.2=false∧x.Imm≠0 then (11,4)
  else if (x.Op=22∨x.Op=23)∧(x.Imm<0∨n<x.Imm) then (12,4)
  else if (x.Op=29∨x.Op=30)∧(x.Imm<0∨locks≤x.Imm) then (13,4)
  else (0,0)) from rfl] at hq
 by_cases h1:x.Op<0∨34≤x.Op
 ·grind
 ·rw [if_neg h1] at hq
  rw [if_neg (by simp;omega)]
  refine zpf (zvq fun h1 l1=> ?_)
  dsimp only
  refine zmj (zzq ?_)
  by_cases h2:regP (zak x.Op).1 x.A≠0
  ·grind
  ·rw [if_neg h2] at hq
   rw [if_neg (by simpa using h2)]
   refine zmj (zzq ?_)
   by_cases h3:regP (zak x.Op).2.1 x.B≠0
   ·grind
   ·rw [if_neg h3] at hq
    rw [if_neg (by simpa using h3)]
    refine zmj (zzq ?_)
    by_cases h4:regP (zak x.Op).2.2.1 x.C≠0
    ·grind
    ·rw [if_neg h4] at hq
     rw [if_neg (by simpa using h4)]
     refine zcv1 (zbx2 ?_)
     grind
theorem zur1 {x:S_api_Ins} {n locks:Int} {Q:Int→Hp→Prop} {h:Hp} (hq:∀h',h≤h'→Q (zhk (insOf x) n locks).1 h'):zwt Tryz.prog x n locks Q h:=by
 unfold zwt
 exact zey1 (zff2 fun h' _ l _=>hq h' l)
abbrev InsS (h:Hp) (l:Sl) (xs:List S_api_Ins):Prop:=Rs h sh_api_Ins 5 l xs
theorem zim1 {l:Sl} {xs:List S_api_Ins} {locks:Int} {Q:Int→Int→Hp→Prop} {h:Hp} (r:InsS h l xs) (hq:∀h',h≤h'→Q (codeP (xs.map insOf) locks).1 (codeP (xs.map insOf) locks).2 h'):zbk1 Tryz.prog l locks Q h:=by
 unfold zbk1
 have hlen:=r.1
 refine letW ?_
 unfold codeP at hq
 by_cases h1:locks<0∨8<locks
 ·rw [if_pos h1] at hq
  rw [if_pos (by simp;omega)]
  exact hq h (Hp.le_refl h)
 ·rw [if_neg h1,List.length_map] at hq
  rw [if_neg (by simp;omega)]
  by_cases h2:256<xs.length
  ·rw [if_pos h2] at hq
   rw [if_pos (by simp;omega)]
   exact hq h (Hp.le_refl h)
  ·rw [if_neg h2] at hq
   rw [if_neg (by simp;omega)]
   refine LoopW1.intro (fun i k=>h≤k∧0≤i∧i≤(xs.length:Int)∧codeR xs.length locks ((xs.drop i.toNat).map insOf) i=codeR xs.length locks (xs.map insOf) 0) (fun i _=>(xs.length-i).toNat) ⟨Hp.le_refl h,by omega,by omega,rfl⟩ ?_
   rintro i k ⟨hle,h0,hi,he⟩
   by_cases h3:i<(xs.length:Int)
   ·rw [if_pos (decide_eq_true (by omega))]
    refine Rs.get (sh:=sh_api_Ins) (Rw.mono hle r) (fun _=>rfl) (by omega) h0 h3 fun x hx=> ?_
    refine zxd (zur1 fun k' hle'=> ?_)
    have hd:xs.drop i.toNat=x::xs.drop (i.toNat+1):=by
     obtain ⟨hx1,hx2⟩:=List.getElem?_eq_some_iff.1 hx
     rw [←hx2];simp
    rw [hd,List.map_cons,codeR] at he
    rw [hlen]
    by_cases h4:(zhk (insOf x) xs.length locks).1≠0
    ·rw [if_pos h4] at he
     rw [if_pos (by simpa using h4)]
     rw [←he] at hq
     exact hq k' (Hp.le_trans hle hle')
    ·rw [if_neg h4] at he
     rw [if_neg (by simpa using h4)]
     have hw:IntKind.wrap .i64 (i+1)=i+1:=zae (by omega) (by omega)
     rw [hw]
     refine ⟨⟨Hp.le_trans hle hle',by omega,by omega,?_⟩,by omega⟩
     grind
   ·rw [if_neg (by simp;omega)]
    have hd:xs.drop i.toNat=[]:=List.drop_eq_nil_of_le (by omega)
    rw [hd] at he
    rw [←he] at hq
    exact hq k hle
end Lf

namespace Lf
open Go Go.Proofs Go.RowKit
def txtB (l:List UInt8):ByteArray:=⟨l.toArray⟩
theorem zbc (l:List UInt8):(txtB l).data.toList=l:=by simp [txtB]
theorem zlc1 (t:ByteArray):txtB t.data.toList=t:=by cases t;simp [txtB]
theorem zkj (t:ByteArray):t.data.toList.length=t.size:=by rw [Array.length_toList];rfl
theorem zhr (l:List UInt8):(txtB l).size=l.length:=by rw [←zkj,zbc]
theorem zro1 {a b:ByteArray} (h:a.data.toList=b.data.toList):a=b:=by rw [←zlc1 a,h,zlc1]
theorem zky (t:ByteArray) (a b:Nat):t.extract a b=txtB ((t.data.toList.take b).drop a):=by
 apply zro1
 rw [zbc,ByteArray.data_extract,Array.toList_extract]
 show (t.data.toList.drop a).take (b-a)=_
 rw [List.drop_take]
theorem zfg2 (xs:List Nat):strN xs=txtB (bB xs):=rfl
theorem txt_beq {a b:ByteArray}:((a.toList==b.toList)=true)↔a.data.toList=b.data.toList:=by
 rw [ByteArray.toList_eq,ByteArray.toList_eq]
 exact beq_iff_eq
theorem zrp1 {s:ByteArray} {i:Nat} (hi:i<s.data.toList.length):s[i]! =s.data.toList[i]:=by
 have hs:i<s.size:=by rw [←zkj];exact hi
 rw [getElem!_pos s i hs]
 show s.data[i]=_
 simp
def hd (l:List UInt8) (c:UInt8):List UInt8:=l.takeWhile (· !=c)
theorem hd_le (l:List UInt8) (c:UInt8):(hd l c).length≤l.length:=(List.takeWhile_prefix (p:=(· !=c)) (l:=l)).length_le
theorem zld1 (l:List UInt8) (c:UInt8):∀x∈hd l c,x≠c:=by
 intro x hx
 have:=List.all_takeWhile (l:=l) (p:=(· !=c))
 rw [List.all_eq_true] at this
 exact bne_iff_ne.1 (this x hx)
theorem zby2 (l:List UInt8) (c:UInt8) (h:(hd l c).length≠l.length):l=hd l c++c::l.drop ((hd l c).length+1):=by
 induction l with
 | nil=>exact absurd rfl h
 | cons x r ih=>
  unfold hd at*
  rw [List.takeWhile_cons] at h ⊢
  split
  ·rename_i hc
   rw [if_pos hc] at h
   rw [List.length_cons,List.drop_succ_cons,List.cons_append,←ih (by simpa using h)]
  ·rename_i hc
   have:x=c:=by simpa using hc
   rw [this]
   rfl
theorem zgi2 {l:List UInt8} {c:UInt8} (h:(hd l c).length=l.length):hd l c=l:=(List.takeWhile_prefix (p:=(· !=c)) (l:=l)).eq_of_length h
theorem zgj2 {A B:List UInt8} {c:UInt8} (hA:∀x∈A,x≠c):hd (A++c::B) c=A:=by
 unfold hd
 rw [List.takeWhile_append_of_pos (fun x hx=>bne_iff_ne.2 (hA x hx))]
 simp
theorem zir2 (s:ByteArray) (c:UInt8):(List.range s.size).find? (fun i=>s[i]! ==c)=if (hd s.data.toList c).length=s.size then none else some (hd s.data.toList c).length:=by
 have hl:=zkj s
 by_cases h:(hd s.data.toList c).length=s.size
 ·rw [if_pos h,List.find?_eq_none]
  intro i hi e
  have hi:=List.mem_range.1 hi
  rw [zrp1 (by omega)] at e
  have ha:=zgi2 (h.trans hl.symm)
  exact zld1 s.data.toList c _ (by rw [ha];exact List.getElem_mem (by omega)) (eq_of_beq e)
 ·rw [if_neg h,List.find?_range_eq_some]
  have hle:=hd_le s.data.toList c
  have hc:=zby2 s.data.toList c (by omega)
  refine ⟨?_,List.mem_range.2 (by omega),?_⟩
  ·rw [zrp1 (by omega),beq_iff_eq]
   have:s.data.toList[(hd s.data.toList c).length]? =some c:=by
    rw [hc]
    rw [zgj2 (zld1 s.data.toList c)]
    simp
   exact (List.getElem?_eq_some_iff.1 this).2
  ·intro j hj
   rw [zrp1 (by omega)]
   have:s.data.toList[j]? =(hd s.data.toList c)[j]?:=by
    rw [hc]
    rw [zgj2 (zld1 s.data.toList c),List.getElem?_append_left hj]
   rw [List.getElem?_eq_getElem (by omega),List.getElem?_eq_getElem hj,Option.some.injEq] at this
   rw [this]
   have:=zld1 s.data.toList c _ (List.getElem_mem hj)
   simpa using this
section
variable {h:Hp}
theorem zle1 {s:ByteArray} {c:UInt8} {K:Int→Hp→Prop} (hk:K (if (hd s.data.toList c).length=s.size then -1 else ((hd s.data.toList c).length:Int)) h):
  SemE Tryz.prog (Extern.BytealgIndexByte.indexByte #[.string s,.int .u8 (((c.toNat):Nat):Int)]) (shInt .i64) K h:=by
 show semW Tryz.prog (match (List.range s.size).find? (fun i=>s[i]! ==(((c.toNat:Nat):Int).toNat.toUInt8)) with | some i=>pure (goInt i) | none=>pure (goInt (-1))) _ h
 have e:((c.toNat:Nat):Int).toNat.toUInt8=c:=by
  rw [Int.toNat_natCast]
  exact UInt8.ofNat_toNat
 rw [e,zir2]
 by_cases hh:(hd s.data.toList c).length=s.size
 ·rw [if_pos hh] at hk ⊢
  exact ⟨_,rfl,hk⟩
 ·rw [if_neg hh] at hk ⊢
  exact ⟨_,rfl,hk⟩
theorem zrq1 {s:ByteArray} {c:UInt8} {Q:ByteArray→ByteArray→Bool→Hp→Prop} (hs:s.size<4611686018427387904)
  (hq:Q (txtB (hd s.data.toList c)) (txtB (s.data.toList.drop ((hd s.data.toList c).length+1))) (decide ((hd s.data.toList c).length≠s.size)) h):zmb Tryz.prog s ⟨#[c]⟩ Q h:=by
 unfold zmb
 refine zhw ?_
 unfold zfs
 refine zhc ?_
 have hl:=zkj s
 have hle:=hd_le s.data.toList c
 have fin:∀r:Int,r=(if (hd s.data.toList c).length=s.size then -1 else ((hd s.data.toList c).length:Int))→(if (decide (r≥(0:Int)))=true then
   (((0:Int)≤r∧r≤(((ByteArray.size s):Nat):Int))∧(((0:Int)≤(IntKind.wrap .i64 (r+(((ByteArray.size (⟨#[c]⟩:ByteArray)):Nat):Int)))∧(IntKind.wrap .i64 (r+(((ByteArray.size (⟨#[c]⟩:ByteArray)):Nat):Int)))≤(((ByteArray.size s):Nat):Int))∧Q (ByteArray.extract s 0 (Int.toNat r)) (ByteArray.extract s (Int.toNat (IntKind.wrap .i64 (r+(((ByteArray.size (⟨#[c]⟩:ByteArray)):Nat):Int)))) (ByteArray.size s)) true h))
   else Q s ⟨#[]⟩ false h):=by
  rintro r rfl
  by_cases hh:(hd s.data.toList c).length=s.size
  ·rw [if_pos hh]
   refine iteF (by decide) ?_
   rw [decide_eq_false (fun e=>e hh),zgi2 (hh.trans hl.symm),zlc1,List.drop_of_length_le (by omega)] at hq
   exact hq
  ·rw [if_neg hh]
   refine iteT (decide_eq_true (by omega)) ?_
   have e1:ByteArray.size (⟨#[c]⟩:ByteArray)=1:=rfl
   rw [e1,zae (n:=((hd s.data.toList c).length:Int)+((1:Nat):Int)) (by omega) (by omega),zky,zky]
   have e2:(((hd s.data.toList c).length:Int)+((1:Nat):Int)).toNat=(hd s.data.toList c).length+1:=by omega
   rw [e2,Int.toNat_natCast,List.drop_zero,List.take_of_length_le (by omega:s.data.toList.length≤s.size)]
   rw [decide_eq_true hh] at hq
   have e3:s.data.toList.take (hd s.data.toList c).length=hd s.data.toList c:=by
    conv=>lhs;rw [zby2 s.data.toList c (by omega)]
    have e:∀A B:List UInt8,(A++B).take A.length=A:=fun A B=>by simp
    rw [show (hd (hd s.data.toList c++c::s.data.toList.drop ((hd s.data.toList c).length+1)) c).length=(hd s.data.toList c).length by rw [←zby2 s.data.toList c (by omega)]]
    exact e _ _
   rw [e3]
   exact ⟨⟨by omega,by omega⟩,⟨by omega,by omega⟩,hq⟩
 unfold zeu
 refine letW (iteB (fun hy=> ?_) fun _=>iteT rfl ⟨⟨by decide,by show (0:Int)<1;decide⟩,zfi ?_⟩)
 ·refine fin 0 ?_
  have hy:(((ByteArray.toList ⟨#[c]⟩)==(ByteArray.toList s)))=true:=by
   rw [Bool.or_eq_true] at hy
   rcases hy with hy | hy
   ·exact absurd hy (by rw [show ByteArray.size (⟨#[c]⟩:ByteArray)=1 from rfl];decide)
   ·exact hy
  have e:=txt_beq.1 hy
  have e:s.data.toList=[c]:=e.symm
  have e2:s.size=1:=by rw [←hl,e];rfl
  have e3:hd [c] c=[]:=by simp [hd]
  rw [e,e2,e3]
  rfl
 ·unfold zdh
  exact zle1 (fin _ rfl)
theorem zbz2 {s:ByteArray} {c:UInt8} {K:Int→Hp→Prop} (hk:K ((s.data.toList.count c:Nat):Int) h):CallT Tryz.prog zwq [.string s,.string ⟨#[c]⟩] (shInt .i64) K h:=
 zil1 (sh:=shInt .i64) (x:=((s.data.toList.count c:Nat):Int)) (fun w _=>Tryz.strings_Count_one s c w) hk
theorem zvr {P:Program} {g:FuncId} {args:List Value} {sh:Shape} {K:sh.T→Hp→Prop} {x:sh.T} (hc:∀w,Sub h w→Calls P g args.toArray w fun e w'=>e=.returned (sh.enc x)∧Below w.heap.size w w') (hk:K x h):CallT P g args sh K h:=by
 intro w hs
 refine (hc w hs).mono ?_
 rintro e w' ⟨rfl,hb⟩
 exact ⟨_,h,rfl,⟨x,rfl,hk⟩,⟨fun i o e=>by rw [hb.block i (hs.lt e)];exact hs i o e,hb.size,fun i hi hn=>⟨hb.block i hi,hn⟩,hb.os,hb.tape,hb.output⟩⟩
theorem zin1 {fn s:ByteArray} {base bits k:Int} {K:Leaf→Hp→Prop} (e:EEnv h) (hs:s.size≤281474976710656) (h12:k=1∨k=2) (hk:∀er,isIfV er.v=true→zcd er.v=false→K er h):
  CallT Tryz.prog zcp [.string fn,.string s,.int .i64 base,.int .i64 bits,.iface 122 (.int .i64 k)] zah K h:=by
 intro w hw
 rcases h12 with rfl | rfl
 ·obtain ⟨te,pe,hl⟩:=e.rng
  refine (Tryz.strconv_toError_range fn s base bits (.iface te pe) w hs (zfu hw (hl 0 _ rfl)) (.inr ⟨te,pe,rfl⟩)).mono ?_
  rintro e w' ⟨N,rfl,_,_,hb⟩
  exact ⟨_,h,rfl,⟨⟨.iface 125 (.pointer (some ⟨N,0,none⟩)),rfl⟩,rfl,hk _ rfl rfl⟩,⟨fun i o e=>by rw [hb.block i (hw.lt e)];exact hw i o e,hb.size,fun i hi hn=>⟨hb.block i hi,hn⟩,hb.os,hb.tape,hb.output⟩⟩
 ·obtain ⟨te,pe,hl⟩:=e.syn
  refine (Tryz.strconv_toError_syntax fn s base bits (.iface te pe) w hs (zfu hw (hl 0 _ rfl)) (.inr ⟨te,pe,rfl⟩)).mono ?_
  rintro e w' ⟨N,rfl,_,_,hb⟩
  exact ⟨_,h,rfl,⟨⟨.iface 125 (.pointer (some ⟨N,0,none⟩)),rfl⟩,rfl,hk _ rfl rfl⟩,⟨fun i o e=>by rw [hb.block i (hw.lt e)];exact hw i o e,hb.size,fun i hi hn=>⟨hb.block i hi,hn⟩,hb.os,hb.tape,hb.output⟩⟩
theorem zoi1 {s:ByteArray} {Q:Int→Leaf→Hp→Prop} (e:EEnv h) (hs:s.size≤281474976710656) (hok:∀v,Lib.parseIntB 64 s.data.toList=.ok v→Q v leafN h) (hno:∀n er,(∀v,Lib.parseIntB 64 s.data.toList≠ .ok v)→isIfV er.v=true→zcd er.v=false→Q n er h):
  zmf Tryz.prog s (10:Int) (64:Int) Q h:=by
 unfold zmf
 have bw:∀ {w w':World},(w'=w∨∃t,w'=Lib.bytesWorld w 5 t)→Below w.heap.size w w':=fun {w w'} hw=>by
  rcases hw with rfl | ⟨t,rfl⟩
  ·exact Below.refl _ _
  ·exact Lib.bytesWorld_below _ _ _
 have con:=fun w=>Tryz.internal_strconv_ParseInt_10_all64 s (by omega) w
 rcases hq:Lib.parseIntB 64 s.data.toList with v | _ | _
 ·refine zvr (sh:=zgp (shInt .i64) zah) (x:=(v,leafN)) (fun w _=>(con w).mono ?_) ?_
  ·rintro e w' ⟨rfl,hw⟩
   rw [hq]
   exact ⟨rfl,bw hw⟩
  ·exact ⟨rfl,iteF (by show ¬((!(zcd Value.nilIface))=true);decide) (encN (hok v hq))⟩
 ·refine zvr (sh:=zgp (shInt .i64) zah) (x:=((0:Int),⟨.iface 122 (.int .i64 2),rfl⟩)) (fun w _=>(con w).mono ?_) ?_
  ·rintro e w' ⟨rfl,hw⟩
   rw [hq]
   exact ⟨rfl,bw hw⟩
  ·exact ⟨rfl,iteT rfl (zin1 e hs (.inr rfl) fun er i1 i2=>encL (hno _ _ (fun v e=>by rw [hq] at e;cases e) i1 i2))⟩
 ·refine zvr (sh:=zgp (shInt .i64) zah) (x:=(Lib.intSat 64 s.data.toList,⟨.iface 122 (.int .i64 1),rfl⟩)) (fun w _=>(con w).mono ?_) ?_
  ·rintro e w' ⟨rfl,hw⟩
   rw [hq]
   exact ⟨rfl,bw hw⟩
  ·exact ⟨rfl,iteT rfl (zin1 e hs (.inl rfl) fun er i1 i2=>encL (hno _ _ (fun v e=>by rw [hq] at e;cases e) i1 i2))⟩
theorem zoj1 {i:Int} {Q:ByteArray→Hp→Prop} (hi:InI i) (t:zre h) (hk:∀h',h≤h'→Q (txtB (decB i)) h'):zkp Tryz.prog i (10:Int) Q h:=by
 unfold zkp
 refine zhd (zcm1 hi.1 hi.2 t fun zs h' hl hz=> ?_)
 rw [zav1 hz]
 exact hk h' hl
theorem zfh2 {i:Int} {Q:ByteArray→Hp→Prop} (hi:InI i) (t:zre h) (hk:∀h',h≤h'→Q (txtB (decB i)) h'):zoc Tryz.prog i Q h:=
 zqv1 hi.1 hi.2 t fun zs h' hl hz=>by
  rw [zav1 hz]
  exact hk h' hl
theorem zfy1 {s:ByteArray} {Q:Int→Bool→Hp→Prop} (e:VEnv h) (hs:s.size≤281474976710656) (hk:∀h' n,h≤h'→(∀v,intV s.data.toList=some v→n=v)→Q n (intV s.data.toList).isSome h'):zzb Tryz.prog s Q h:=by
 unfold zzb
 refine zxe (zoi1 e.ee hs (fun v hv=> ?_) fun n er hn i1 i2=> ?_)
 ·refine ⟨rfl,effB rfl (znh (zoj1 (zfp1 hv) e.pe.env.small fun h' hl=>letW ?_))⟩
  have:=hk h' v hl
  unfold intV at this
  rw [hv] at this
  by_cases hd:decB v=s.data.toList
  ·rw [show (zcd leafN.v&&((ByteArray.toList (txtB (decB v)))==(ByteArray.toList s)))=true by
    rw [Bool.and_eq_true];exact ⟨rfl,txt_beq.2 (by rw [zbc];exact hd)⟩]
   simp only [hd,if_true] at this
   exact this fun u hu=>by cases hu;rfl
  ·rw [show (zcd leafN.v&&((ByteArray.toList (txtB (decB v)))==(ByteArray.toList s)))=false by
    rw [Bool.and_eq_false_iff];exact .inr (by rw [Bool.eq_false_iff];intro hh;exact hd (by have:=txt_beq.1 hh;rw [zbc] at this;exact this))]
   simp only [hd,if_false] at this
   exact this fun u hu=>by cases hu
 ·refine ⟨i1,effF i2 ⟨#[]⟩ (letW ?_)⟩
  rw [i2,Bool.false_and]
  have e1:intV s.data.toList=none:=by
   unfold intV
   split
   ·rename_i v hv;exact absurd hv (hn v)
   ·rfl
  have:=hk h n (Hp.le_refl h)
  rw [e1] at this
  exact this fun u hu=>by cases hu
theorem zzr {n:Int} {Q:Bool→Hp→Prop} (hq:Q (zle n) h):zza Tryz.prog n Q h:=by
 unfold zza
 exact letW hq
def fT :ByteArray:=⟨#[102]⟩
theorem zca2 {s:ByteArray} {Q:Int→Bool→Hp→Prop} (e:VEnv h) (hs:s.size≤281474976710656) (hk:∀h' n,h≤h'→(∀v,setOf s.data.toList=some v→n=v)→Q n (setOf s.data.toList).isSome h'):zet1 Tryz.prog s Q h:=by
 unfold zet1
 have hl:=zkj s
 refine zfk (zay1 (p:=fT) (fun hn=> ?_) fun h1 h2=> ?_)
 ·refine iteF (by decide) (zyh (zfy1 e hs fun h' n l' hv=> ?_))
  have key:setOf s.data.toList=(intV s.data.toList).filter zle:=by
   cases hq:s.data.toList with
   | nil=>rfl
   | cons c r=>
    show (if c=102 then _ else _)=_
    refine if_neg fun hc=>hn ⟨?_,?_⟩
    ·show 1≤s.size
     rw [←hl,hq];simp
    ·rw [zky,hq,hc]
     rfl
  have:=hk h' n l'
  rw [key] at this
  cases hi:intV s.data.toList with
  | none=>
   rw [hi] at this
   refine effF rfl true (letW ?_)
   exact this fun v hv=>by cases hv
  | some v=>
   rw [hi] at this
   obtain rfl:=hv v hi
   rw [Option.filter_some] at this
   refine effB rfl (ztj (zzr (letW ?_)))
   rw [show ((some n).isSome&&zle n)=zle n from Bool.true_and _]
   cases hs:zle n with
   | true=>rw [hs] at this;exact this fun v hv=>by cases hv;rfl
   | false=>rw [hs] at this;exact this fun v hv=>by cases hv
 ·have h1:1≤s.size:=h1
  obtain ⟨c,r,hq⟩:∃c r,s.data.toList=c::r:=by
   cases hq:s.data.toList with
   | nil=>rw [hq] at hl;simp at hl;omega
   | cons c r=>exact ⟨c,r,rfl⟩
  have hc:c=102:=by
   have e1:=congrArg (fun t:ByteArray=>t.data.toList) h2
   rw [zky,zbc,hq] at e1
   have e1: [c]=[102]:=e1
   exact (List.cons.inj e1).1
  subst hc
  have e3:s.extract fT.size s.size=txtB r:=by
   rw [zky,←hl,List.take_of_length_le (Nat.le_refl _),hq]
   rfl
  rw [e3]
  have hr:(txtB r).size≤281474976710656:=by
   rw [zhr]
   rw [hq,List.length_cons] at hl
   omega
  refine iteT rfl (zgn1 (znr1 e hr fun h' x er l' sd=> ?_))
  have key:setOf s.data.toList=(fltV r).filter fun n=> !zle n:=by
   rw [hq]
   show (if (102:UInt8)=102 then (fltV r).filter (fun n=> !zle n) else (intV (102::r)).filter zle)=_
   exact if_pos rfl
  have:=hk h' x l'
  rw [key] at this
  have sd:=zbj2 sd
  rw [zbc] at sd
  rcases sd with ⟨e1,rfl⟩ | ⟨e1,rfl⟩
  ·rw [e1,Option.filter_some] at this
   refine effB rfl (ztj (zzr (letW ?_)))
   rw [show (((0:Int)==0)&& !zle x)= !zle x from Bool.true_and _]
   cases hs:zle x with
   | true=>rw [hs] at this;exact this fun v hv=>by cases hv
   | false=>rw [hs] at this;exact this fun v hv=>by cases hv;rfl
  ·rw [e1] at this
   refine effF rfl true (letW ?_)
   exact this fun v hv=>by cases hv
end
end Lf

namespace Go.Proofs
open Go.Shelf
def Tryz.lays156_ren :Go.Shelf.Ren:=⟨fun | 156=>118 | 165=>93 | 166=>42 | 169=>44 | 240=>68 | 241=>130 | 276=>112 | 277=>164 | n=>n,fun | 31=>23 | 9=>9 | 3=>3 | 4=>4 | 0=>0 | 20=>20 | 72=>76 | 76=>57 | 70=>73 | 37=>74 | 75=>56 | 127=>99 | 164=>135 | 5=>5 | 80=>78 | n=>n,fun | n=>n⟩
theorem Tryz.lays156 :Go.Proofs.Lays.n156 Tryz.prog Tryz.lays156_ren:={
 mixed:=by kernel_rfl
 f156:=Tryz.func118.trans (congrArg some (by kernel_rfl))
 f165:=Tryz.func93.trans (congrArg some (by kernel_rfl))
 f166:=Tryz.func42.trans (congrArg some (by kernel_rfl))
 f169:=Tryz.func44.trans (congrArg some (by kernel_rfl))
 f240:=Tryz.func68.trans (congrArg some (by kernel_rfl))
 f241:=Tryz.func130.trans (congrArg some (by kernel_rfl))
 f276:=Tryz.func112.trans (congrArg some (by kernel_rfl))
 f277:=Tryz.func164.trans (congrArg some (by kernel_rfl))
 t0:=Tryz.underlying0
 a0:=Tryz.isAgg0
 z0:=Tryz.sizeOf0
 v0:=Tryz.zeroValue0
 t3:=Tryz.underlying3
 a3:=Tryz.isAgg3
 z3:=Tryz.sizeOf3
 v3:=Tryz.zeroValue3
 t4:=Tryz.underlying4
 a4:=Tryz.isAgg4
 z4:=Tryz.sizeOf4
 v4:=Tryz.zeroValue4
 t9:=Tryz.underlying9
 a9:=Tryz.isAgg9
 z9:=Tryz.sizeOf9
 v9:=Tryz.zeroValue9
 t20:=Tryz.underlying20
 a20:=Tryz.isAgg20
 z20:=Tryz.sizeOf20
 v20:=Tryz.zeroValue20
 t31:=Tryz.underlying23
 a31:=Tryz.isAgg23
 z31:=Tryz.sizeOf23
 v31:=Tryz.zeroValue23
 t37:=Tryz.underlying74
 a37:=Tryz.isAgg74
 z37:=Tryz.sizeOf74
 v37:=Tryz.zeroValue74
 t70:=Tryz.underlying73
 a70:=Tryz.isAgg73
 z70:=Tryz.sizeOf73
 v70:=Tryz.zeroValue73
 t72:=Tryz.underlying76
 a72:=Tryz.isAgg76
 z72:=Tryz.sizeOf76
 v72:=Tryz.zeroValue76
 t75:=Tryz.underlying56
 a75:=Tryz.isAgg56
 z75:=Tryz.sizeOf56
 v75:=Tryz.zeroValue56
 t76:=Tryz.underlying57
 a76:=Tryz.isAgg57
 z76:=Tryz.sizeOf57
 v76:=Tryz.zeroValue57
 t127:=Tryz.underlying99
 a127:=Tryz.isAgg99
 z127:=Tryz.sizeOf99
 v127:=Tryz.zeroValue99
 t164:=Tryz.underlying135
 a164:=Tryz.isAgg135
 z164:=Tryz.sizeOf135
 v164:=Tryz.zeroValue135}
theorem Tryz.Builder_Extra_156 :Builder.Extra Tryz.prog Tryz.lays156_ren:={
 sizeBuilder:=by kernel_rfl
 liesBuilder:=by kernel_rfl
 t5:=Tryz.underlying5
 a5:=Tryz.isAgg5
 z5:=Tryz.sizeOf5
 v5:=Tryz.zeroValue5
 infoByte:=by kernel_rfl
 cellsByte:=by kernel_rfl
 sizeByte:=by kernel_rfl
 neB5:=by decide}
open Go.RowKit in
theorem Tryz.strings_Join_none (a:Option Addr) (c:Nat) (sep:ByteArray) (w:World):
  Calls Tryz.prog 118 #[.slice a 0 c,.string sep] w fun e w'=>e=.returned (.string ⟨#[]⟩)∧w'=w:=Any.strings_Join_none Tryz.lays156 Tryz.Builder_Extra_156 a c sep w
open Go.RowKit in
theorem Tryz.strings_Join (bk o c:Nat) (xs:List ByteArray) (sep:ByteArray) (w:World) (hcells:∀(j:Nat) x,xs[j]? =some x→w.cell? ⟨bk,o+j,none⟩=some (.string x)) (hbk:bk<w.heap.size) (hN:xs.length≤140737488355328) (hcap:xs.length≤c) (hlen:(Lib.join (xs.map (·.data.toList)) sep.data.toList).length≤140737488355328):
  Calls Tryz.prog 118 #[.slice (some ⟨bk,o,none⟩) xs.length c,.string sep] w fun e w'=>e=.returned (.string ⟨(Lib.join (xs.map (·.data.toList)) sep.data.toList).toArray⟩)∧Below w.heap.size w w':=Any.strings_Join Tryz.lays156 Tryz.Builder_Extra_156 bk o c xs sep w hcells hbk hN hcap hlen
end Go.Proofs

namespace Lf
open Go Go.Proofs Go.RowKit
theorem zus1 (c:UInt8) (l:List UInt8):(⟨⟨c::(txtB l).data.toList⟩⟩:ByteArray)=txtB (c::l):=by
 apply zro1
 rw [zbc (c::l)]
 show c::(txtB l).data.toList=_
 rw [zbc]
theorem zis2 (a b:List UInt8):(⟨⟨List.append (txtB a).data.toList b⟩⟩:ByteArray)=txtB (a++b):=by
 apply zro1
 rw [zbc (a++b)]
 show (txtB a).data.toList++b=_
 rw [zbc]
theorem zfi2 {k:Nat} (hk:k<34):(wordTab.map fun l=>Value.string ⟨l.toArray⟩)[k]? =some (Value.string (txtB (wordL k))):=by
 have hl:k<wordTab.length:=hk
 rw [List.getElem?_map,List.getElem?_eq_getElem hl]
 unfold wordL
 rw [List.getD_eq_getElem?_getD,List.getElem?_eq_getElem hl]
 rfl
theorem inReg {has:Bool} {n:Int} (hr:regP has n=0) (ht:has=true):InI n:=by
 unfold regP at hr
 rw [if_neg (by rw [ht];simp)] at hr
 unfold InI
 split at hr
 ·cases hr
 ·omega
theorem zut1 {has:Bool} {w:List UInt8} {m:Nat} (hm:has=true→w.length≤m):(fldB has w).length≤m+1:=by
 cases has with
 | true=>have:=hm rfl;simp [fldB];omega
 | false=>simp [fldB]
theorem zfz1 {x:PIns} {n:Int} (hw:(zhk x n 8).1=0) (hi:InI x.imm):(lineB x).length≤110:=by
 obtain ⟨⟨p0,p1⟩,pa,pb,pc, -, -⟩:=wrong_right.1 hw
 have hreg:∀ {has:Bool} {n:Int},regP has n=0→(fldB has (regB n)).length≤23:=fun {has n} hr=>zut1 fun ht=>by
  have:=zky1 (inReg hr ht)
  unfold regB
  rw [List.length_cons]
  omega
 have hnum:(fldB (zak x.op).2.2.2 (numB x.op x.imm)).length≤27:=zut1 fun _=>by
  unfold numB
  split
  ·have:=zey2 x.imm;rw [List.length_cons];omega
  ·have:=zky1 hi;omega
 unfold lineB
 simp only [List.length_append]
 have h0:=zum1 x.op.toNat (by omega)
 have h1:=hreg pa
 have h2:=hreg pb
 have h3:=hreg pc
 omega
section
variable {h:Hp}
theorem zio1 {k:Nat} {Q:ByteArray→Hp→Prop} (hk:k<34) (hq:Q (txtB (wordL k)) h):zbl1 Tryz.prog (k:Int) Q h:=by
 unfold zbl1
 refine ⟨⟨by omega,by omega⟩,txtB (wordL k),?_,hq⟩
 rw [zco1,Nat.mul_one,Int.toNat_natCast]
 exact zfi2 hk
theorem zcb2 {w:List UInt8} (h:∀k,k<34→wordL k≠w):opOf w=none:=by
 unfold opOf
 rw [List.find?_eq_none]
 intro k hk e
 exact h k (List.mem_range.1 hk) (eq_of_beq e)
theorem zfj2 {s:ByteArray} {Q:Int→Bool→Hp→Prop} (h1:∀k,opOf s.data.toList=some k→Q (k:Int) true h) (h0:opOf s.data.toList=none→Q 0 false h):zjp1 Tryz.prog s Q h:=by
 unfold zjp1
 refine LoopW1.intro (fun i k=>k=h∧∃j:Nat,i=(j:Int)∧j≤34∧∀t,t<j→wordL t≠s.data.toList) (fun i _=>(34-i).toNat) ⟨rfl,0,rfl,by omega,fun t ht=>by omega⟩ ?_
 rintro _ k ⟨rfl,j,rfl,hj,hn⟩
 by_cases hlt:j<34
 ·refine iteT (decide_eq_true (by omega)) (zao1 (zio1 hlt ?_))
  refine iteB (fun he=> ?_) fun he=> ?_
  ·have e:=txt_beq.1 he
   rw [zbc] at e
   exact h1 j (by rw [←e];exact zoe1 hlt)
  ·have e:wordL j≠s.data.toList:=fun e=>he (txt_beq.2 (by rw [zbc];exact e))
   rw [zae (by omega) (by omega)]
   refine ⟨⟨rfl,j+1,by omega,by omega,fun t ht=> ?_⟩,by omega⟩
   by_cases ht2:t<j
   ·exact hn t ht2
   ·rw [show t=j by omega];exact e
 ·exact iteF (fun hh=>hlt (by have:=of_decide_eq_true hh;omega)) (h0 (zcb2 fun t ht=>hn t (by omega)))
theorem zbb1 {n:Int} {Q:ByteArray→Hp→Prop} (hn:InI n) (t:zre h) (hk:∀h',h≤h'→Q (txtB (regB n)) h'):zsn Tryz.prog n Q h:=by
 unfold zsn
 refine znz (zfh2 hn t fun h' hl=>⟨?_,?_⟩)
 ·rw [zhr]
  have:=zky1 hn
  omega
 ·rw [zus1]
  exact hk h' hl
theorem zcc2 {x:S_api_Ins} {Q:ByteArray→Hp→Prop} (hn:InI x.Imm) (e:PEnv h) (hk:∀h',h≤h'→Q (txtB (numB x.Op x.Imm)) h'):zwv Tryz.prog x Q h:=by
 unfold zwv
 have hc:∀(r:Bool),((x.Op==(1:Int))=true→r=zle x.Imm)→LetW ((x.Op==(1:Int))&&(!r)) fun y=>
   (if y=true then CallT Tryz.prog znj [(.int .i64 x.Imm)] shStr (fun r1 h2=>((1+(ByteArray.size r1))≤9223372036854775807∧Q ⟨⟨(102::r1.data.toList)⟩⟩ h2)) h
   else CallT Tryz.prog zhp [(.int .i64 x.Imm),(.int .i64 (10:Int))] shStr (fun r1 h2=>Q r1 h2) h):=by
  intro r hr
  refine letW ?_
  by_cases h1:x.Op=1∧zle x.Imm=false
  ·have e1:(x.Op==(1:Int))=true:=beq_iff_eq.2 h1.1
   rw [e1,hr e1,h1.2]
   refine iteT rfl (ztg (zxj (znx1 x.Imm) (zkw1 _) e fun h' out hl hi=>⟨?_,?_⟩))
   ·rw [zbv]
    have:=(zuh hi).1
    omega
   ·have:=hk h' hl
    unfold numB at this
    rw [if_pos h1,zrg1 hi] at this
    rw [zfg2,zus1]
    exact this
  ·refine iteF (fun hh=> ?_) (znh (zoj1 hn e.env.small fun h' hl=> ?_))
   ·rw [Bool.and_eq_true] at hh
    have e1:x.Op=1:=beq_iff_eq.1 hh.1
    refine h1 ⟨e1,?_⟩
    rw [←hr hh.1]
    simpa using hh.2
   ·have:=hk h' hl
    unfold numB at this
    rw [if_neg h1] at this
    exact this
 by_cases hb:(x.Op==(1:Int))=true
 ·exact effB hb (ztj (zzr (hc _ fun _=>rfl)))
 ·exact effF (Bool.eq_false_iff.2 hb) true (hc _ fun hh=>absurd hh hb)
def eTx (x:ByteArray):List Value:=zai (shStr.enc x)
theorem zxa1 (w:List UInt8):∀r:List (List UInt8),Lib.join (w::r) [32]=w++r.flatMap (32:: ·):=by
 intro r
 unfold Lib.join
 induction r generalizing w with
 | nil=>simp [List.intercalate]
 | cons x r ih=>
  have e: [(32:UInt8)].intercalate (w::x::r)=w++(32:: [(32:UInt8)].intercalate (x::r)):=by
   simp [List.intercalate,List.intersperse]
  rw [e,ih,List.flatMap_cons]
  rfl
theorem zfk2 {h0:Hp} {l:Sl} {xs:List ByteArray} {K:ByteArray→Hp→Prop} (o:Own h0 h 1 eTx l xs) (hn:xs.length≤100)
  (hlen:(Lib.join (xs.map (·.data.toList)) [32]).length≤1000000) (hk:K (txtB (Lib.join (xs.map (·.data.toList)) [32])) h):CallT Tryz.prog zyg [l.v,.string ⟨#[32]⟩] shStr K h:=by
 refine zvr (x:=txtB (Lib.join (xs.map (·.data.toList)) [32])) (fun w hs=> ?_) hk
 obtain ⟨o1,o2,o3⟩:=o
 rcases o3 with ⟨e,ec⟩ | ⟨b,cs,t,e,hb,hl,ht,_⟩
 ·have hx:xs=[]:=List.length_eq_zero_iff.1 (by omega)
  subst hx
  have e0:l.len=0:=o1
  have ev:l.v=.slice none 0 l.cap:=by unfold Sl.v;rw [e,e0]
  rw [ev]
  refine (Tryz.strings_Join_none none l.cap ⟨#[32]⟩ w).mono ?_
  rintro e w' ⟨rfl,rfl⟩
  exact ⟨rfl,Below.refl _ _⟩
 ·have ev:l.v=.slice (some ⟨b,0,none⟩) xs.length l.cap:=by unfold Sl.v;rw [e,o1]
  rw [ev]
  refine Tryz.strings_Join b 0 l.cap xs ⟨#[32]⟩ w (fun j x hx=> ?_) (hs.lt hb) (by omega) (by omega) (Nat.le_trans hlen (by omega))
  refine zfu hs ?_
  have hcb:hcell h ⟨b,0+j,none⟩=cs[j]?:=by
   unfold hcell
   rw [Nat.zero_add]
   simp [hb]
  rw [hcb]
  have hj:j<xs.length:=(List.getElem?_eq_some_iff.1 hx).1
  have h1:(cs.take (l.len*1))[j]? =some (.string x):=by
   rw [ht]
   have:=zjh1 (enc:=eTx) (sz:=1) (fun _=>rfl) xs j x hx 0 (.string x) rfl
   simpa using this
  rw [List.getElem?_take] at h1
  split at h1
  ·exact h1
  ·cases h1
theorem zxb1 {h0:Hp} {l:Sl} {xs:List ByteArray} {Q:ByteArray→Hp→Prop} (o:Own h0 h 1 eTx l xs) (hn:xs.length≤100) (hlen:(Lib.join (xs.map (·.data.toList)) [32]).length≤1000000)
  (hk:Q (txtB (Lib.join (xs.map (·.data.toList)) [32]++ [10])) h):zbm1 Tryz.prog l Q h:=by
 unfold zbm1
 refine zfk2 o hn hlen ⟨?_,?_⟩
 ·rw [zhr];omega
 ·rw [zis2]
  exact hk
theorem zlf1 {x:S_api_Ins} {n:Int} {Q:ByteArray→Hp→Prop} (hw:(zhk (insOf x) n 8).1=0) (hi:InI x.Imm) (e:PEnv h) (hk:∀h',h≤h'→Q (txtB (lineB (insOf x)++ [10])) h'):zuz Tryz.prog x Q h:=by
 obtain ⟨⟨p0,p1⟩,pa,pb,pc, -, -⟩:=wrong_right.1 hw
 obtain ⟨op,a,b,c,imm⟩:=x
 have p0:0≤op:=p0
 have p1:op<34:=p1
 have pa:regP (zak op).1 a=0:=pa
 have pb:regP (zak op).2.1 b=0:=pb
 have pc:regP (zak op).2.2.1 c=0:=pc
 have hi:InI imm:=hi
 obtain ⟨k,rfl⟩:∃k:Nat,op=k:=⟨op.toNat,by omega⟩
 unfold zuz
 refine zao1 (zio1 (by omega) ?_)
 refine zem1 (h0:=h) (sz:=1) (enc:=eTx) (xs:=[txtB (wordL k)]) (Hp.le_refl h) rfl (fun _=>rfl) fun a1 h2 l2 o2=> ?_
 refine zpf (zvq fun h3 l3=> ?_)
 dsimp only
 have o3:=o2.mono l3
 have l23:=Hp.le_trans l2 l3
 have more:∀ {has:Bool} {w:List UInt8} {g:FuncId} {args:List Value} {l:Sl} {xs:List ByteArray} {k:Hp} {R:Sl→Hp→Prop},h≤k→Own h k 1 eTx l xs→xs.length≤4→
   (has=true→∀ {K:ByteArray→Hp→Prop},(∀k',k≤k'→K (txtB w) k')→CallT Tryz.prog g args shStr K k)→
   (∀l' k',h≤k'→Own h k' 1 eTx l' (xs++if has then [txtB w] else [])→R l' k')→
   (if has=true then CallT Tryz.prog g args shStr (fun r5 h4=>NewW [(.string r5)] (fun a1 h5=>zbw 1 16 [(.string ⟨#[]⟩)] l ⟨(some a1),1,1⟩ (fun r6 h6=>R r6 h6) h5) h4) k else R l k):=by
  intro has w g args l xs k R hk o hx hc hr
  cases has with
  | true=>
   refine iteT rfl (hc rfl fun k' lk=> ?_)
   exact zbu1 (enc:=eTx) (ys:=[txtB w]) (Hp.le_trans hk lk) (o.mono lk) rfl rfl (fun _=>rfl) (fun _=>rfl) rfl (by simp only [List.length_cons,List.length_nil];omega) fun l' h' hl o' _=>hr l' h' hl o'
  | false=>exact iteF (by decide) (hr l k hk (by simpa using o))
 have hlen0:=zum1 k (by omega)
 refine JoinW1.intro (fun l k'=>h≤k'∧Own h k' 1 eTx l ([txtB (wordL k)]++if (zak (k:Int)).1 then [txtB (regB a)] else []))
  (more l23 o3 (by simp) (fun ht _ hK=>zjl (zbb1 (inReg pa ht) (e.mono l23).env.small hK)) fun l' k' hl o=>⟨hl,o⟩) ?_
 rintro l k1 ⟨m1,q1⟩
 refine JoinW1.intro (fun l k'=>h≤k'∧Own h k' 1 eTx l (([txtB (wordL k)]++if (zak (k:Int)).1 then [txtB (regB a)] else [])++if (zak (k:Int)).2.1 then [txtB (regB b)] else []))
  (more m1 q1 (by split<;>simp) (fun ht _ hK=>zjl (zbb1 (inReg pb ht) (e.mono m1).env.small hK)) fun l' k' hl o=>⟨hl,o⟩) ?_
 rintro l k2 ⟨m2,q2⟩
 refine JoinW1.intro (fun l k'=>h≤k'∧Own h k' 1 eTx l ((([txtB (wordL k)]++if (zak (k:Int)).1 then [txtB (regB a)] else [])++if (zak (k:Int)).2.1 then [txtB (regB b)] else [])++if (zak (k:Int)).2.2.1 then [txtB (regB c)] else []))
  (more m2 q2 (by split<;>split<;>simp) (fun ht _ hK=>zjl (zbb1 (inReg pc ht) (e.mono m2).env.small hK)) fun l' k' hl o=>⟨hl,o⟩) ?_
 rintro l k3 ⟨m3,q3⟩
 refine JoinW1.intro (fun l k'=>h≤k'∧Own h k' 1 eTx l (((([txtB (wordL k)]++if (zak (k:Int)).1 then [txtB (regB a)] else [])++if (zak (k:Int)).2.1 then [txtB (regB b)] else [])++if (zak (k:Int)).2.2.1 then [txtB (regB c)] else [])++if (zak (k:Int)).2.2.2 then [txtB (numB (k:Int) imm)] else []))
  (more m3 q3 (by split<;>split<;>split<;>simp) (fun _ _ hK=>zez1 (zcc2 (x:=⟨(k:Int),a,b,c,imm⟩) hi (e.mono m3) hK)) fun l' k' hl o=>⟨hl,o⟩) ?_
 rintro l k4 ⟨m4,q4⟩
 have one:∀(has:Bool) (w:List UInt8),((if has then [txtB w] else []).map (·.data.toList)).flatMap (32:: ·)=fldB has w:=by
  intro has w
  cases has with
  | true=>simp [fldB,zbc]
  | false=>rfl
 have ej:Lib.join ((((([txtB (wordL k)]++if (zak (k:Int)).1 then [txtB (regB a)] else [])++if (zak (k:Int)).2.1 then [txtB (regB b)] else [])++if (zak (k:Int)).2.2.1 then [txtB (regB c)] else [])++if (zak (k:Int)).2.2.2 then [txtB (numB (k:Int) imm)] else []).map (·.data.toList)) [32]=lineB ⟨(k:Int),a,b,c,imm⟩:=by
  simp only [List.append_assoc,List.map_append,List.map_cons,List.map_nil,List.cons_append,List.nil_append,zbc]
  rw [zxa1]
  simp only [List.flatMap_append,one]
  unfold lineB
  simp only [Int.toNat_natCast]
 refine zkc1 (zxb1 q4 (by split<;>split<;>split<;>split<;>simp) ?_ ?_)
 ·rw [ej]
  have:=zfz1 (x:=⟨(k:Int),a,b,c,imm⟩) hw hi
  omega
 ·rw [ej]
  exact hk k4 m4
end
end Lf

namespace Go.Proofs
open Go.Shelf Go.RowKit
set_option maxHeartbeats 2000000 in
set_option maxRecDepth 100000 in
theorem zok1 {P:Program} {ρ:Ren} (L:Lays.n169 P ρ) (X:Builder.Extra P ρ) (b g cap:Nat) (p:Value) (cur:Array Value) (l:List UInt8) (w:World) (h0:l≠ []) (h63:l.length≤1000000)
  (hbk:w.heap[b]? =some (.cells #[p,.slice (some ⟨g,0,none⟩) l.length cap] (ρ.t 72) (0,0))) (hg:w.heap[g]? =some (.cells cur (ρ.t 5) (0,0))) (hcap:l.length≤cap) (hcs:l.length≤cur.size) (hcell:∀(j:Nat) (x:UInt8),l[j]? =some x→cur[j]? =some (.int .u8 x.toNat)):
  Calls P (ρ.f 169) #[.pointer (some ⟨b,0,none⟩)] w fun e w'=>e=.returned (.string ⟨l.toArray⟩)∧w'=w.drew.freeze ⟨g,0,none⟩ l.length:=by
 have hl0:l.length≠0:=by simpa using h0
 have c1:w.drew.cell? ⟨b,1,none⟩=some (.slice (some ⟨g,0,none⟩) l.length cap):=by
  have:w.drew.heap[b]? =some (.cells #[p,.slice (some ⟨g,0,none⟩) l.length cap] (ρ.t 72) (0,0)):=hbk
  rw [Lib.cell_of_heap this];rfl
 have hSD:(Builtin.unsafeSliceData_ #[(ρ.t 37)] (ρ.t 127) #[.slice (some ⟨g,0,none⟩) l.length cap]).run P w.drew=.ok (.pointer (some ⟨g,0,none⟩)) w.drew:=
  Lib.run_unsafeSliceData_row _ _ _ _ _ _ (by omega)
 have hg':w.drew.heap[g]? =some (.cells cur (ρ.t 5) (0,0)):=hg
 have hUS:(Builtin.unsafeString_ #[(ρ.t 127),(ρ.t 3)] (ρ.t 9) #[.pointer (some ⟨g,0,none⟩),.int .i64 l.length]).run P w.drew=.ok (.string ⟨l.toArray⟩) (w.drew.freeze ⟨g,0,none⟩ l.length):=by
  refine Lib.run_unsafeString_row w.drew (ρ.t 127) (ρ.t 3) (ρ.t 9) (ρ.t 5) L.t127 X.cellsByte g cur.size (by simp [World.shape?,hg']) l h0 hcs (by omega) ?_
  intro j x hx
  have ha:(⟨g,0,none⟩:Addr).add j=⟨g,j,none⟩:=by rw [Lf.box_add,Nat.zero_add]
  rw [ha,Lib.cell_of_heap hg']
  exact hcell j x hx
 have mixed:=L.mixed
 have t72:=L.t72;have a72:=L.a72;have z72:=L.z72;have v72:=L.v72;have u72:=run_underlying L.t72
 have t70:=L.t70;have a70:=L.a70;have z70:=L.z70;have v70:=L.v70;have u70:=run_underlying L.t70
 have t37:=L.t37;have a37:=L.a37;have z37:=L.z37;have v37:=L.v37;have u37:=run_underlying L.t37
 have t127:=L.t127;have a127:=L.a127;have z127:=L.z127;have v127:=L.v127;have u127:=run_underlying L.t127
 have t3:=L.t3;have a3:=L.a3;have z3:=L.z3;have v3:=L.v3;have u3:=run_underlying L.t3
 have t9:=L.t9;have a9:=L.a9;have z9:=L.z9;have v9:=L.v9;have u9:=run_underlying L.t9
 have t5:=X.t5;have a5:=X.a5;have z5:=X.z5;have v5:=X.v5;have u5:=run_underlying X.t5
 go_enter L.f169,Body.n169_ntmps ρ
 go_wp2
 go_region_o
 all_goals (go_wp2;go_ret;exact ⟨rfl,rfl⟩)
end Go.Proofs
namespace Lf
open Go Go.Proofs Go.Shelf Go.RowKit
def byteV (b:UInt8):Value:=.int .u8 ((b.toNat:Nat):Int)
def Bld (h:Hp) (b:Nat) (bs:List UInt8) (F:List Nat):Prop:=
 ∃(p:Value) (l:Sl),(p=Value.pointer none∨p=.pointer (some ⟨b,0,none⟩))∧h b=some (.cells #[p,l.v] 76 (0,0))∧b∉F∧l.len=bs.length∧l.len≤l.cap∧
  ((l.base=none∧l.cap=0∧F=[])∨∃(g:Nat) (cs:List Value),l.base=some ⟨g,0,none⟩∧F=[g]∧h g=some (.cells (List.toArray cs) 5 (0,0))∧cs.length=l.cap∧cs.take l.len=bs.map byteV)
theorem Bld.le {h h':Hp} {b:Nat} {bs:List UInt8} {F:List Nat} (B:Bld h b bs F) (hl:h≤h'):Bld h' b bs F:=by
 obtain ⟨p,l,hp,hb,hn,e1,e2,e3⟩:=B
 refine ⟨p,l,hp,hl _ _ hb,hn,e1,e2,e3.imp id ?_⟩
 rintro ⟨g,cs,f1,f2,f3,f4⟩
 exact ⟨g,cs,f1,f2,hl _ _ f3,f4⟩
theorem zgk2 :Lays.n240 Tryz.prog Tryz.lays156_ren:={Tryz.lays156 with}
theorem zgl2 :Lays.n169 Tryz.prog Tryz.lays156_ren:={Tryz.lays156 with}
section
variable {h:Hp}
theorem zuu1 {b:Nat} {o:Obj} (e:h b=some o):h.set b o=h:=by
 funext i
 unfold Hp.set
 split
 ·rename_i hi;rw [hi,e]
 ·rfl
theorem zol1 {b:Nat} {p v:Value} {K:Hp→Prop} (hp:p=Value.pointer none∨p=.pointer (some ⟨b,0,none⟩)) (e:h b=some (.cells #[p,v] 76 (0,0)))
  (hk:K (h.set b (.cells #[.pointer (some ⟨b,0,none⟩),v] 76 (0,0)))):Call0 Tryz.prog zix [.pointer (some ⟨b,0,none⟩)] K h:=by
 intro w hs
 have hw:=hs _ _ e
 rcases hp with rfl | rfl
 ·have e0:hcell h ⟨b,0,none⟩=some (.pointer none):=by unfold hcell;simp [e]
  refine (Any.Builder_copyCheck_fresh zgk2 Tryz.Builder_Extra_156.toX72 b w (zfu hs e0) (by simp [World.shape?,hw];rfl) (by simp [World.frozen?,hw])).mono ?_
  rintro e' w' ⟨rfl,rfl⟩
  have st:=zir1 hs (v:=.pointer (some ⟨b,0,none⟩)) e0
  obtain ⟨c,t,fr,hb,hput⟩:=zrt1 (v:=.pointer (some ⟨b,0,none⟩)) e0
  have hb:h b=some (.cells c t fr):=hb
  rw [e] at hb
  cases hb
  rw [hput] at st
  exact ⟨_,_,rfl,⟨(),rfl,hk⟩,st⟩
 ·have e0:hcell h ⟨b,0,none⟩=some (.pointer (some ⟨b,0,none⟩)):=by unfold hcell;simp [e]
  refine (Any.Builder_copyCheck_used zgk2 Tryz.Builder_Extra_156.toX72 b w (zfu hs e0)).mono ?_
  rintro e' w' ⟨rfl,rfl⟩
  rw [zuu1 e] at hk
  exact ⟨_,_,rfl,⟨(),rfl,hk⟩,Step.refl hs⟩
theorem zcd2 {b:Nat} {o o':Obj}:(h.set b o).set b o'=h.set b o':=by
 funext i
 unfold Hp.set
 split<;>rfl
theorem zip1 {g t off:Nat}:∀(new:List Value) (i:Nat) (cs:List Value) (h:Hp),h g=some (.cells (List.toArray cs) t (0,0))→off+i+new.length≤cs.length→
  putL h ⟨g,off,none⟩ new i=h.set g (.cells (List.toArray (cs.take (off+i)++new++cs.drop (off+i+new.length))) t (0,0))
 | [],i,cs,h,e,_=>by
  have:cs.take (off+i)++ []++cs.drop (off+i+0)=cs:=by simp
  show h=h.set g (.cells (List.toArray (cs.take (off+i)++ []++cs.drop (off+i+0))) t (0,0))
  rw [this,zuu1 e]
 | v::new,i,cs,h,e,hl=>by
  rw [List.length_cons] at hl
  have hlt:off+i<cs.length:=by omega
  have c0:hcell h ⟨g,off+i,none⟩=some cs[off+i]:=by unfold hcell;simp [e,hlt]
  obtain ⟨c,t',fr,hb,hput⟩:=zrt1 (v:=v) c0
  have hb:h g=some (.cells c t' fr):=hb
  rw [e] at hb
  cases hb
  have e1:h.put ⟨g,off+i,none⟩ v=h.set g (.cells (List.toArray (cs.set (off+i) v)) t (0,0)):=by
   rw [hput]
   simp
  show putL (h.put ((⟨g,off,none⟩:Addr).add i) v) ⟨g,off,none⟩ new (i+1)=_
  rw [box_add,e1,zip1 new (i+1) (cs.set (off+i) v) _ zec (by rw [List.length_set];omega),zcd2]
  congr 3
  have t1:(cs.set (off+i) v).take (off+(i+1))=cs.take (off+i)++ [v]:=by
   rw [show off+(i+1)=off+i+1 by omega,List.take_add_one,List.getElem?_set_self hlt,List.take_set_of_le (Nat.le_refl _)]
   rfl
  have t2:(cs.set (off+i) v).drop (off+(i+1)+new.length)=cs.drop (off+i+(new.length+1)):=by
   rw [List.drop_set_of_lt (by omega),show off+(i+1)+new.length=off+i+(new.length+1) by omega]
  rw [t1,t2,List.length_cons]
  simp
theorem zkz (s:ByteArray):zek s=s.data.toList.map byteV:=rfl
theorem zga1 :∀l:List UInt8,zfn (l.map byteV)=true
 | []=>rfl
 | _::l=>zga1 l
theorem zfl2 {h0:Hp} {b:Nat} {bs:List UInt8} {F:List Nat} {s:ByteArray} {Q:Int→Leaf→Hp→Prop} (hw:h0≤h) (hb0:h0 b=none) (hF:∀g∈F,h0 g=none) (B:Bld h b bs F) (hl:bs.length+s.size≤1000000)
  (hk:∀n er h' F',h0≤h'→(∀g∈F',h0 g=none)→Bld h' b (bs++s.data.toList) F'→Q n er h'):zej Tryz.prog (some ⟨b,0,none⟩) s Q h:=by
 obtain ⟨p,l,hp,hb,hn,e1,e2,e3⟩:=B
 have hsz:=zkj s
 unfold zej
 refine zol1 hp hb ?_
 have k1:(h.set b (.cells #[.pointer (some ⟨b,0,none⟩),l.v] 76 (0,0))) b=some (.cells #[.pointer (some ⟨b,0,none⟩),l.v] 76 (0,0)):=zec
 have w1:=zdb1 (o:=.cells #[.pointer (some ⟨b,0,none⟩),l.v] 76 (0,0)) hw hb0
 have o1:∀g,g≠b→(h.set b (.cells #[.pointer (some ⟨b,0,none⟩),l.v] 76 (0,0))) g=h g:=fun g hg=>by unfold Hp.set;rw [if_neg hg]
 generalize h.set b (.cells #[.pointer (some ⟨b,0,none⟩),l.v] 76 (0,0))=h1 at*
 have ea:(⟨b,0,none⟩:Addr).add 1=⟨b,1,none⟩:=by rw [box_add]
 have c1:hcell h1 ⟨b,1,none⟩=some l.v:=by unfold hcell;simp [k1]
 refine zag ?_
 rw [ea]
 refine ld_at (sh:=shSl) l (zsd c1) ?_
 have fin:∀(r:Sl) (h2:Hp) (F':List Nat),h0≤h2→(∀g∈F',h0 g=none)→b∉F'→h2 b=some (.cells #[.pointer (some ⟨b,0,none⟩),l.v] 76 (0,0))→r.len=(bs++s.data.toList).length→r.len≤r.cap→
   ((r.base=none∧r.cap=0∧F'=[])∨∃g cs,r.base=some ⟨g,0,none⟩∧F'=[g]∧h2 g=some (.cells (List.toArray cs) 5 (0,0))∧cs.length=r.cap∧cs.take r.len=(bs++s.data.toList).map byteV)→
   NilW none (some ⟨b,0,none⟩) fun p1=>StW h2 (Addr.add p1 1) [r.v] (fun h3=>EncW zah .nilIface fun e=>Q (((ByteArray.size s):Nat):Int) e h3):=by
  intro r h2 F' l2 f2 n2 b2 r1 r2 r3
  refine zag ?_
  rw [ea]
  have c2:hcell h2 ⟨b,1,none⟩=some l.v:=by unfold hcell;simp [b2]
  have kb2:Blk h2 b [.pointer (some ⟨b,0,none⟩),l.v]:=⟨_,b2⟩
  refine ⟨kb2.stOk (off:=1) 1 (by simp),?_⟩
  obtain ⟨c,t,fr,hbb,hput⟩:=zrt1 (v:=r.v) c2
  have hbb:h2 b=some (.cells c t fr):=hbb
  rw [b2] at hbb
  cases hbb
  have e3:putL h2 ⟨b,1,none⟩ [r.v] 0=h2.set b (.cells #[.pointer (some ⟨b,0,none⟩),r.v] 76 (0,0)):=by
   show (h2.put (Addr.add ⟨b,1,none⟩ 0) r.v)=_
   rw [box_add,Nat.add_zero,hput]
   rfl
  show EncW zah .nilIface fun e=>Q _ e (putL h2 ⟨b,1,none⟩ [r.v] 0)
  rw [e3]
  refine encN (hk _ _ _ F' (zdb1 l2 hb0) f2 ⟨_,r,.inr rfl,zec,n2,r1,r2,r3.imp id ?_⟩)
  rintro ⟨g,cs,g1,g2,g3,g4,g5⟩
  have hne:g≠b:=fun e=>n2 (by rw [g2,e];exact List.mem_singleton.2 rfl)
  refine ⟨g,cs,g1,g2,?_,g4,g5⟩
  unfold Hp.set
  rw [if_neg hne]
  exact g3
 have hlen:(bs++s.data.toList).length=l.len+s.size:=by rw [List.length_append,e1,hsz]
 rcases e3 with ⟨f1,f2,rfl⟩ | ⟨g,cs,f1,rfl,f3,f4,f5⟩
 ·have hl0:l.len=0:=by omega
  have hbs:bs=[]:=List.length_eq_zero_iff.1 (by omega)
  subst hbs
  refine ⟨[],⟨by rw [hl0];rfl,.inl (by rw [hl0])⟩,⟨by omega,by omega⟩,by rw [zkz];exact zga1 _,fun hc=>⟨fun a ha=> ?_,?_⟩,fun hc c g hg1 hg2=> ?_⟩
  ·rw [f1] at ha;cases ha
  ·have hs0:s.size=0:=by omega
   have hd0:s.data.toList=[]:=List.length_eq_zero_iff.1 (by omega)
   have e4:putO h1 l.base (l.len*1) (zek s)=h1:=by rw [f1];rfl
   rw [e4]
   exact fin ⟨l.base,l.len+s.size,l.cap⟩ h1 [] w1 (fun g hg=>by cases hg) (by simp) k1 hlen.symm (by show l.len+s.size≤l.cap;omega) (.inl ⟨f1,f2,rfl⟩)
  ·have hne:b≠g:=fun e=>by rw [←e,k1] at hg2;cases hg2
   refine fin ⟨some ⟨g,0,none⟩,l.len+s.size,c⟩ _ [g] (Hp.le_trans w1 (ziv hg2)) (fun x hx=> ?_) (fun hx=>hne (List.mem_singleton.1 hx)) ?_ hlen.symm hg1 (.inr ⟨g,_,rfl,rfl,zec,?_,?_⟩)
   ·rw [List.mem_singleton.1 hx]
    exact ztw w1 hg2
   ·unfold Hp.set
    rw [if_neg hne]
    exact k1
   ·have:(zek s).length=s.size:=by rw [zkz,List.length_map,hsz]
    rw [List.length_append,List.length_append,this,zts]
    simp only [List.length_nil,List.length_cons]
    show 0+s.size+_=c
    have:=hg1
    omega
   ·show (([]++zek s++zbm [Value.int .u8 0] (c-(l.len+s.size)))).take (l.len+s.size)=_
    rw [hl0,Nat.zero_add,List.nil_append,List.nil_append,zkz,List.take_left' (by rw [List.length_map,hsz])]
 ·have hne:g≠b:=fun e=>hn (by rw [e];exact List.mem_singleton.2 rfl)
  have g1:h1 g=some (.cells (List.toArray cs) 5 (0,0)):=by rw [o1 g hne];exact f3
  have kb:Blk h1 g cs:=⟨_,g1⟩
  have hg0:=hF g (List.mem_singleton.2 rfl)
  have hbl:(zek s).length=s.size:=by rw [zkz,List.length_map,hsz]
  refine ⟨cs.take l.len,?_,⟨by omega,by omega⟩,by rw [zkz];exact zga1 _,fun hc=>⟨fun a ha=> ?_,?_⟩,fun hc c g' hg1 hg2=> ?_⟩
  ·rw [f1,Nat.mul_one]
   exact kb.rd (off:=0) (n:=l.len) (by rw [List.length_take];omega) (by rw [List.drop_zero])
  ·rw [f1] at ha
   cases ha
   rw [box_add,Nat.zero_add,Nat.mul_one,Nat.mul_one]
   exact kb.stOk _ (by omega)
  ·have e4:putO h1 l.base (l.len*1) (zek s)=h1.set g (.cells (List.toArray (cs.take l.len++zek s++cs.drop (l.len+s.size))) 5 (0,0)):=by
    rw [f1,Nat.mul_one]
    simp only [putO,box_add,Nat.zero_add]
    have hp:=zip1 (off:=l.len) (zek s) 0 cs h1 g1 (by omega)
    rw [hbl,Nat.add_zero] at hp
    exact hp
   rw [e4]
   refine fin ⟨l.base,l.len+s.size,l.cap⟩ _ [g] (zdb1 w1 hg0) (fun x hx=>by rw [List.mem_singleton.1 hx];exact hg0) (fun hx=>hne (List.mem_singleton.1 hx).symm) ?_ hlen.symm hc (.inr ⟨g,_,f1,rfl,zec,?_,?_⟩)
   ·unfold Hp.set
    rw [if_neg (fun e=>hne e.symm)]
    exact k1
   ·rw [List.length_append,List.length_append,List.length_take,List.length_drop,hbl]
    show min l.len cs.length+s.size+(cs.length-(l.len+s.size))=l.cap
    omega
   ·show (cs.take l.len++zek s++cs.drop (l.len+s.size)).take (l.len+s.size)=_
    rw [List.take_left' (by rw [List.length_append,List.length_take,hbl];omega),f5,zkz,List.map_append]
  ·have hne2:b≠g':=fun e=>by rw [←e,k1] at hg2;cases hg2
   refine fin ⟨some ⟨g',0,none⟩,l.len+s.size,c⟩ _ [g'] (Hp.le_trans w1 (ziv hg2)) (fun x hx=> ?_) (fun hx=>hne2 (List.mem_singleton.1 hx)) ?_ hlen.symm hg1 (.inr ⟨g',_,rfl,rfl,zec,?_,?_⟩)
   ·rw [List.mem_singleton.1 hx]
    exact ztw w1 hg2
   ·unfold Hp.set
    rw [if_neg hne2]
    exact k1
   ·rw [List.length_append,List.length_append,hbl,zts,List.length_take]
    simp only [List.length_nil,List.length_cons]
    show min l.len cs.length+s.size+_=c
    omega
   ·show ((cs.take l.len++zek s++zbm [Value.int .u8 0] (c-(l.len+s.size)))).take (l.len+s.size)=_
    rw [List.take_left' (by rw [List.length_append,List.length_take,hbl];omega),f5,zkz,List.map_append]
theorem zit2 {h0:Hp} {b:Nat} {bs:List UInt8} {F:List Nat} {K:ByteArray→Hp→Prop} (hw:h0≤h) (hF:∀g∈F,h0 g=none) (B:Bld h b bs F) (hl:bs.length≤1000000) (hz:bs=[]→F=[]) (hk:∀h',h0≤h'→K (txtB bs) h'):CallT Tryz.prog zed [.pointer (some ⟨b,0,none⟩)] shStr K h:=by
 obtain ⟨p,l,hp,hb,hn,e1,e2,e3⟩:=B
 intro w hs
 have hwb:=hs _ _ hb
 by_cases h0:bs=[]
 ·subst h0
  have le0:l.len=0:=e1
  rcases e3 with ⟨f1,f2,rfl⟩ | ⟨g,cs,f1,rfl,f3,f4,f5⟩
  ·have ev:l.v=.slice none 0 0:=by unfold Sl.v;rw [f1,le0,f2]
   rw [ev] at hwb
   refine (Any.Builder_String_nil zgl2 Tryz.Builder_Extra_156 w.heap.size b p w hwb).mono ?_
   rintro e w' ⟨rfl,hb⟩
   exact ⟨_,h,rfl,⟨txtB [],rfl,hk h hw⟩,⟨fun i o e=>by rw [hb.block i (hs.lt e)];exact hs i o e,hb.size,fun i hi hn=>⟨hb.block i hi,hn⟩,hb.os,hb.tape,hb.output⟩⟩
  ·cases hz rfl
 ·rcases e3 with ⟨f1,f2,rfl⟩ | ⟨g,cs,f1,rfl,f3,f4,f5⟩
  ·exact absurd (List.length_eq_zero_iff.1 (by omega)) h0
  ·have ev:l.v=.slice (some ⟨g,0,none⟩) bs.length l.cap:=by unfold Sl.v;rw [f1,e1]
   rw [ev] at hwb
   have hwg:=hs _ _ f3
   have hcs:bs.length≤(List.toArray cs).size:=by rw [List.size_toArray];omega
   refine (zok1 zgl2 Tryz.Builder_Extra_156 b g l.cap p (List.toArray cs) bs w h0 hl hwb hwg (by omega) hcs (fun j x hx=> ?_)).mono ?_
   ·have hj:j<bs.length:=(List.getElem?_eq_some_iff.1 hx).1
    rw [List.getElem?_toArray]
    have h1:(cs.take l.len)[j]? =some (byteV x):=by rw [f5,List.getElem?_map,hx];rfl
    rw [List.getElem?_take,if_pos (by omega)] at h1
    exact h1
   ·rintro e w' ⟨rfl,rfl⟩
    have hl0:bs.length≠0:=fun e=>h0 (List.length_eq_zero_iff.1 e)
    have st:=zuk (w:=w.drew) (h:=h) hs (o:=.cells (List.toArray cs) 5 (0,bs.length)) f3
    have ew:w.drew.freeze ⟨g,0,none⟩ bs.length={w.drew with heap:=w.drew.heap.setIfInBounds g (.cells (List.toArray cs) 5 (0,bs.length))}:=by
     unfold World.freeze
     rw [if_neg hl0]
     congr 1
     apply Array.ext_getElem?
     intro i
     have hlt:g<w.drew.heap.size:=hs.lt f3
     by_cases hi:i=g
     ·subst hi
      rw [Array.getElem?_setIfInBounds_self_of_lt hlt,Array.getElem?_modify,if_pos rfl,show w.drew.heap[i]? =_ from hwg]
      simp
     ·rw [Array.getElem?_setIfInBounds_ne (Ne.symm hi),Array.getElem?_modify,if_neg (Ne.symm hi)]
    rw [ew]
    exact ⟨_,_,rfl,⟨txtB bs,rfl,hk _ (zdb1 hw (hF g (List.mem_singleton.2 rfl)))⟩,st.drew⟩
end
end Lf

namespace Lf
open Go Go.Proofs Go.RowKit
theorem zgb1 {n locks:Int}:∀(l:List PIns) (i:Int),(codeR n locks l i).1=0→(codeR n locks l i).2=0
 | [],_,_=>rfl
 | x::l,i,h=>by
  unfold codeR at h ⊢
  split
  ·rename_i hn
   rw [if_pos hn] at h
   exact absurd h hn
  ·rename_i hn
   rw [if_neg hn] at h
   exact zgb1 l (i+1) h
theorem zce2 {l:List PIns} {locks:Int} (h:(codeP l locks).1=0):(codeP l locks).2=0:=by
 unfold codeP at h ⊢
 split
 ·rfl
 ·rename_i h1
  rw [if_neg h1] at h
  split
  ·rename_i h2
   rw [if_pos h2] at h
   cases h
  ·rename_i h2
   rw [if_neg h2] at h
   exact zgb1 l 0 h
theorem zcf2 (a b:List PIns):progB (a++b)=progB a++progB b:=List.flatMap_append
theorem zcg2 (x:PIns):progB [x]=lineB x++ [10]:=by
 rw [zjo]
 rfl
theorem zxk {n:Int}:∀(l:List PIns),zfu1 n l→(progB l).length≤l.length*111
 | [],_=>by simp [progB]
 | x::l,h=>by
  obtain ⟨h1,h2⟩:=h x (List.mem_cons_self ..)
  have:=zfz1 h1 h2
  have:=zxk l fun y hy=>h y (List.mem_cons_of_mem _ hy)
  rw [zjo,List.length_append,List.length_cons,List.length_cons]
  omega
noncomputable def zyk (l:List PIns):List UInt8:=if (codeP l 8).1=0 then progB l else []
section
variable {h:Hp}
theorem zxc1 {xs:List S_api_Ins} {j:Nat} (hc:(codeP (xs.map insOf) 8).1=0) (hi:∀x∈xs,InI x.Imm):zfu1 (xs.length:Int) ((xs.take j).map insOf):=by
 obtain ⟨h1,h2⟩:=codeP_ok.1 hc
 intro y hy
 obtain ⟨x,hx,rfl⟩:=List.mem_map.1 hy
 have hx:=List.mem_of_mem_take hx
 have:=h2 (insOf x) (List.mem_map.2 ⟨x,hx,rfl⟩)
 rw [List.length_map] at this
 exact ⟨this,hi x hx⟩
theorem zri {l:Sl} {xs:List S_api_Ins} {Q:ByteArray→Int→Int→Hp→Prop} (r:InsS h l xs) (hi:∀x∈xs,InI x.Imm) (e:PEnv h)
  (hk:∀h',h≤h'→Q (txtB (zyk (xs.map insOf))) (codeP (xs.map insOf) 8).1 (codeP (xs.map insOf) 8).2 h'):zyx Tryz.prog l Q h:=by
 unfold zyx
 unfold zyk at hk
 have hlen:=r.1
 refine zan1 (zim1 r fun h1 l1=> ?_)
 by_cases hc:(codeP (xs.map insOf) 8).1=0
 ·rw [if_pos hc,zce2 hc,hc] at hk
  rw [hc]
  obtain ⟨c1,c2⟩:=codeP_ok.1 hc
  rw [List.length_map] at c1
  refine iteF (by decide) ?_
  intro b hb
  have hle:=ziv (o:=.cells [Value.pointer none,.slice none 0 0].toArray 76 (0,0)) hb
  have B0:Bld (h1.set b (.cells [Value.pointer none,.slice none 0 0].toArray 76 (0,0))) b [] []:=⟨_,⟨none,0,0⟩,.inl rfl,zec,by simp,rfl,Nat.le_refl _,.inl ⟨rfl,rfl,rfl⟩⟩
  generalize h1.set b (.cells [Value.pointer none,.slice none 0 0].toArray 76 (0,0))=h2 at*
  refine LoopW1.intro (fun t k=>h1≤k∧∃j:Nat,t=(j:Int)∧j≤xs.length∧∃F,(∀g∈F,h1 g=none)∧Bld k b (progB ((xs.take j).map insOf)) F∧(progB ((xs.take j).map insOf)=[]→F=[])) (fun t _=>(xs.length-t).toNat)
   ⟨hle,0,rfl,by omega,[],(fun g hg=>by cases hg),by simpa [progB] using B0,fun _=>rfl⟩ ?_
  rintro _ k ⟨hk1,j,rfl,hj,F,hF,B,hz⟩
  have hbd:∀j,(progB ((xs.take j).map insOf)).length≤30000:=fun j=>by
   have h1:=zxk _ (zxc1 (j:=j) hc hi)
   rw [List.length_map,List.length_take] at h1
   have:min j xs.length*111≤256*111:=Nat.mul_le_mul_right _ (by omega)
   omega
  by_cases hlt:j<xs.length
  ·refine iteT (decide_eq_true (by omega)) ?_
   refine Rs.get (sh:=sh_api_Ins) (Rw.mono (Hp.le_trans l1 hk1) r) (fun _=>rfl) (by omega) (by omega) (by omega) fun x hx=> ?_
   rw [Int.toNat_natCast] at hx
   have hxm:=List.mem_of_getElem? hx
   have hw:=c2 (insOf x) (List.mem_map.2 ⟨x,hxm,rfl⟩)
   rw [List.length_map] at hw
   have hlx:=zfz1 hw (hi x hxm)
   refine zcu1 (zlf1 hw (hi x hxm) (e.mono (Hp.le_trans l1 hk1)) fun k2 l2=> ?_)
   have hstep:progB ((xs.take (j+1)).map insOf)=progB ((xs.take j).map insOf)++(lineB (insOf x)++ [10]):=by
    rw [List.take_add_one,hx,List.map_append,zcf2]
    show _++progB [insOf x]=_
    rw [zcg2]
   have hb0:=hbd j
   refine zna (zfl2 (h0:=h1) (Hp.le_trans hk1 l2) hb hF (B.le l2) ?_ fun n er k3 F' l3 hF' B'=> ?_)
   ·rw [zhr,List.length_append,List.length_singleton]
    omega
   ·rw [zbc,←hstep] at B'
    rw [zae (by omega) (by omega)]
    refine ⟨⟨l3,j+1,by omega,by omega,F',hF',B',fun hz'=> ?_⟩,by omega⟩
    rw [hstep] at hz'
    simp at hz'
  ·have hje:j=xs.length:=by omega
   refine iteF (fun hh=>hlt (by have:=of_decide_eq_true hh;omega)) ?_
   have hb0:=hbd j
   refine zit2 (h0:=h1) hk1 hF B (by omega) hz fun h' hl'=> ?_
   rw [hje,List.take_of_length_le (Nat.le_refl _)]
   exact hk h' (Hp.le_trans l1 hl')
 ·rw [if_neg hc] at hk
  exact iteT (bne_iff_ne.2 hc) (hk h1 l1)
end
end Lf



namespace Lf
open Go Go.Proofs Go.RowKit
theorem zfm2 {c:UInt8} {n:Nat} (hn:n<256):((c.toNat:Nat):Int)=(n:Int)↔c=UInt8.ofNat n:=by
 constructor
 ·intro e
  apply UInt8.toNat_inj.1
  rw [zcb1 hn]
  omega
 ·rintro rfl
  rw [zcb1 hn]
theorem zch2 {l:List UInt8} {j:Nat} {c:UInt8} (h:l[j]? =some c):l.getD j 0=c:=by rw [List.getD_eq_getElem?_getD,h];rfl
section
variable {h:Hp} {s:ByteArray}
end
end Lf

namespace Lf
open Go Go.Proofs Go.RowKit
def rdC (s:ByteArray) (st:RS):List Value:=[.string s,.int .i64 (st.pos:Int),.int .i64 st.e,.int .i64 (st.bad:Int)]
theorem zgc1 (b i:Nat):(⟨b,0,none⟩:Addr).add i=⟨b,i,none⟩:=by rw [box_add,Nat.zero_add]
section
variable {h0 h:Hp} {b:Nat} {s:ByteArray} {st:RS}
theorem zom1 {K:Int→Prop} (kb:Blk h b (rdC s st)) (hk:K (st.pos:Int)):NilW none (some ⟨b,0,none⟩) fun p=>LdW none (shInt .i64) h (Addr.add p 1) K:=
 zag (by rw [zgc1];exact ld_at (sh:=shInt .i64) (st.pos:Int) (kb.ldIs (n:=1) rfl) hk)
theorem rd_e {K:Int→Prop} (kb:Blk h b (rdC s st)) (hk:K st.e):NilW none (some ⟨b,0,none⟩) fun p=>LdW none (shInt .i64) h (Addr.add p 2) K:=
 zag (by rw [zgc1];exact ld_at (sh:=shInt .i64) st.e (kb.ldIs (n:=1) rfl) hk)
theorem zjw2 {K:Int→Prop} (kb:Blk h b (rdC s st)) (hk:K (st.bad:Int)):NilW none (some ⟨b,0,none⟩) fun p=>LdW none (shInt .i64) h (Addr.add p 3) K:=
 zag (by rw [zgc1];exact ld_at (sh:=shInt .i64) (st.bad:Int) (kb.ldIs (n:=1) rfl) hk)
theorem rd_s {K:ByteArray→Prop} (kb:Blk h b (rdC s st)) (hk:K s):NilW none (some ⟨b,0,none⟩) fun p=>LdW none shStr h (Addr.add p 0) K:=
 zag (by rw [zgc1];exact ld_at (sh:=shStr) s (kb.ldIs (n:=1) rfl) hk)
theorem zuv1 {i:Nat} {v:Value} {K:Hp→Prop} (hw:h0≤h) (hb:h0 b=none) (kb:Blk h b (rdC s st)) (hi:i<4) (hk:∀h',h0≤h'→Blk h' b ((rdC s st).set i v)→K h'):NilW none (some ⟨b,0,none⟩) fun p=>StW h (Addr.add p i) [v] K:=
 zag (by
  rw [zgc1]
  exact put1 kb hi fun h' m kb'=>hk h' (m.le hw fun x hx=>by rw [List.mem_singleton.1 hx];exact hb).1 kb')
theorem zce1 {e:Int} {n:Nat} {Q:Hp→Prop} (hw:h0≤h) (hb:h0 b=none) (kb:Blk h b (rdC s st)) (hk:∀h',h0≤h'→Blk h' b (rdC s (giveR st e n))→Q h'):znm Tryz.prog (some ⟨b,0,none⟩) e (n:Int) Q h:=by
 unfold znm
 refine rd_e kb ?_
 unfold giveR at hk
 by_cases h1:st.e=0
 ·rw [if_pos h1] at hk
  refine iteT (beq_iff_eq.2 h1) (zuv1 hw hb kb (by decide) fun h1 l1 k1=> ?_)
  have k1:Blk h1 b (rdC s ⟨st.pos,e,st.bad⟩):=k1
  exact zuv1 l1 hb k1 (by decide) fun h2 l2 k2=>hk h2 l2 k2
 ·rw [if_neg h1] at hk
  exact iteF (fun hh=>h1 (beq_iff_eq.1 hh)) (hk h hw kb)
theorem zuw1 {Q:ByteArray→Int→Bool→Hp→Prop} (hw:h0≤h) (hb:h0 b=none) (kb:Blk h b (rdC s st)) (hs:s.size<4611686018427387904) (hp:st.pos≤s.size)
  (hn:∀h',h0≤h'→Blk h' b (rdC s (zhf s.data.toList st).2)→(zhf s.data.toList st).1=none→Q ⟨#[]⟩ 0 false h')
  (hy:∀h' w f,h0≤h'→Blk h' b (rdC s (zhf s.data.toList st).2)→(zhf s.data.toList st).1=some (w,f)→Q (txtB w) (f:Int) true h'):zme Tryz.prog (some ⟨b,0,none⟩) Q h:=by
 unfold zme
 have hl:=zkj s
 unfold zhf at hn hy
 refine rd_e kb ?_
 by_cases h1:st.e=0
 ·rw [if_neg (fun hh=>hh h1)] at hn hy
  refine iteF (fun hh=>bne_iff_ne.1 hh h1) (zom1 kb (rd_s kb ?_))
  by_cases h2:st.pos=s.data.toList.length
  ·rw [if_pos h2] at hn
   have h2':(st.pos:Int)=((s.size:Nat):Int):=by omega
   refine iteT (beq_iff_eq.2 h2') (zom1 kb (zdd (zce1 hw hb kb fun h' l' k'=> ?_)))
   unfold giveR at k'
   rw [if_pos h1] at k'
   exact hn h' l' k' rfl
  ·rw [if_neg h2] at hy
   refine iteF (fun hh=>h2 (by have h3:(st.pos:Int)=((s.size:Nat):Int):=beq_iff_eq.1 hh;omega)) (zom1 kb (rd_s kb ?_))
   rw [zae (n:=(st.pos:Int)+1) (by omega) (by omega)]
   refine ⟨⟨by omega,by omega⟩,?_⟩
   have e1:((st.pos:Int)+1).toNat=st.pos+1:=by omega
   have e2:s.extract (st.pos+1) s.size=txtB (s.data.toList.drop (st.pos+1)):=by
    rw [zky,←hl,List.take_of_length_le (Nat.le_refl _)]
   rw [e1,e2]
   refine zhv (zrq1 (c:=32) (by rw [zhr,List.length_drop];omega) ?_)
   rw [zbc]
   have e3:hd (s.data.toList.drop (st.pos+1)) 32=zhl s.data.toList (st.pos+1):=rfl
   have hwl:=zuj s.data.toList (st.pos+1)
   rw [e3,zhr,zae (n:=(st.pos:Int)+1+((zhl s.data.toList (st.pos+1)).length:Nat)) (by omega) (by omega)]
   refine zuv1 hw hb kb (by decide) fun h' l' k'=> ?_
   have ec:(st.pos:Int)+1+((zhl s.data.toList (st.pos+1)).length:Nat)=((st.pos+1+(zhl s.data.toList (st.pos+1)).length:Nat):Int):=by omega
   rw [ec] at k'
   have k':Blk h' b (rdC s ⟨st.pos+1+(zhl s.data.toList (st.pos+1)).length,st.e,st.bad⟩):=k'
   rw [h1] at k'
   have:=hy h' _ _ l' k' rfl
   rw [show ((st.pos+1:Nat):Int)=(st.pos:Int)+1 by omega] at this
   exact this
 ·rw [if_pos h1] at hn
  exact iteT (bne_iff_ne.2 h1) (hn h hw kb rfl)
theorem zxd1 {w:List UInt8} (h:∀k,k<8→regB ((k:Nat):Int)≠w):regOf w=none:=by
 unfold regOf
 rw [List.find?_eq_none]
 intro k hk e
 have hk:=List.mem_range.1 hk
 exact h k hk (by rw [zvp k hk];exact (eq_of_beq e).symm)
theorem zon1 {l:List UInt8} {w:List UInt8} {f:Nat} (h:(zhf l st).1=some (w,f)):st.e=0∧(zhf l st).2.e=0:=by
 unfold zhf at h ⊢
 by_cases h1:st.e=0
 ·rw [if_neg (fun hh=>hh h1)] at h ⊢
  by_cases h2:st.pos=l.length
  ·rw [if_pos h2] at h;cases h
  ·rw [if_neg h2];exact ⟨h1,rfl⟩
 ·rw [if_pos h1] at h;cases h
theorem zci2 {has:Bool} {Q:Int→Hp→Prop} (hw:h0≤h) (hb:h0 b=none) (e:VEnv h0) (kb:Blk h b (rdC s st)) (hs:s.size<4611686018427387904) (hp:st.pos≤s.size)
  (hk:∀h',h0≤h'→Blk h' b (rdC s (regR s.data.toList st has).2)→Q (regR s.data.toList st has).1 h'):zjc Tryz.prog (some ⟨b,0,none⟩) has Q h:=by
 unfold zjc
 unfold regR at hk
 cases has with
 | false=>
  rw [if_pos rfl] at hk
  exact iteT rfl (hk h hw kb)
 | true=>
  rw [if_neg (by simp)] at hk
  refine iteF (by decide) (zon (zuw1 hw hb kb hs hp (fun h' l' k' en=> ?_) fun h' w f l' k' ey=> ?_))
  ·cases hq:zhf s.data.toList st with
   | mk o s'=>
    rw [hq] at hk k' en
    have en:o=none:=en
    subst en
    exact iteT rfl (hk h' l' k')
  ·have e0:=(zon1 ey).2
   cases hq:zhf s.data.toList st with
   | mk o s'=>
    rw [hq] at hk k' ey e0
    have ey:o=some (w,f):=ey
    have e0:s'.e=0:=e0
    subst ey
    have hk:∀h',h0≤h'→Blk h' b (rdC s (match regOf w with | some n=>((n:Int),s') | none=>((0:Int),(⟨s'.pos,10,f⟩:RS))).2)→Q (match regOf w with | some n=>((n:Int),s') | none=>((0:Int),(⟨s'.pos,10,f⟩:RS))).1 h':=hk
    refine iteF (by decide) ?_
    refine LoopW1.intro (fun t k=>h0≤k∧Blk k b (rdC s s')∧∃j:Nat,t=(j:Int)∧j≤8∧∀i,i<j→regB ((i:Nat):Int)≠w) (fun t _=>(8-t).toNat) ⟨l',k',0,rfl,by omega,fun i hi=>by omega⟩ ?_
    rintro _ k ⟨lk,kk,j,rfl,hj,hn⟩
    by_cases hlt:j<8
    ·refine iteT (decide_eq_true (by omega)) (zjl (zbb1 (by unfold InI;omega) (e.mono lk).pe.env.small fun k2 l2=> ?_))
     refine iteB (fun he=> ?_) fun he=> ?_
     ·have e1:=txt_beq.1 he
      rw [zbc,zbc,zvp j hlt] at e1
      rw [e1,zog1 j hlt] at hk
      exact hk k2 (Hp.le_trans lk l2) (kk.le l2)
     ·have e1:regB ((j:Nat):Int)≠w:=fun e1=>he (txt_beq.2 (by rw [zbc,zbc,e1]))
      rw [zae (by omega) (by omega)]
      refine ⟨⟨Hp.le_trans lk l2,kk.le l2,j+1,by omega,by omega,fun i hi=> ?_⟩,by omega⟩
      by_cases hi2:i<j
      ·exact hn i hi2
      ·rw [show i=j by omega];exact e1
    ·refine iteF (fun hh=>hlt (by have:=of_decide_eq_true hh;omega)) (zdd (zce1 lk hb kk fun k2 l2 kk2=> ?_))
     rw [zxd1 fun i hi=>hn i (by omega)] at hk
     unfold giveR at kk2
     rw [if_pos e0] at kk2
     exact hk k2 l2 kk2
theorem zgm2 {g:Nat} {K:Int→Bool→Hp→Prop} {w:ByteArray} (hg:tb.call g=true) (hc:Call2 Tryz.prog g [.string w] (shInt .i64) zad K h):zft2 Tryz.prog tb (.func (.func (FnV.g ⟨g, #[], #[]⟩)) (FnV.first ⟨g, #[], #[]⟩) (FnV.captured ⟨g, #[], #[]⟩)) [(.string w)] (shInt .i64) zad K h:=
 zuq1 (sh:=zgp (shInt .i64) zad) hg hc
theorem zjx2 {op n:Int} {Q:Int→Hp→Prop} (hw:h0≤h) (hb:h0 b=none) (e:VEnv h0) (kb:Blk h b (rdC s st)) (hs:s.size≤281474976710656) (hp:st.pos≤s.size)
  (hk:∀h' r,h0≤h'→Blk h' b (rdC s (immR s.data.toList n op st).2)→((immR s.data.toList n op st).2.e=0→r=(immR s.data.toList n op st).1)→Q r h'):zko Tryz.prog (some ⟨b,0,none⟩) op n Q h:=by
 unfold zko
 unfold immR at hk
 refine zon (zuw1 hw hb kb (by omega) hp (fun h' l' k' en=> ?_) fun h' w f l' k' ey=> ?_)
 ·cases hq:zhf s.data.toList st with
  | mk o s'=>
   rw [hq] at hk k' en
   have en:o=none:=en
   subst en
   exact iteT rfl (hk h' 0 l' k' fun _=>rfl)
 ·have e0:=(zon1 ey).2
  have hwl:w.length≤s.size:=by
   unfold zhf at ey
   split at ey
   ·cases ey
   ·split at ey
    ·cases ey
    ·cases ey
     have:=zuj s.data.toList (st.pos+1)
     rw [zkj] at this
     omega
  cases hq:zhf s.data.toList st with
  | mk o s'=>
   rw [hq] at hk k' ey e0
   have ey:o=some (w,f):=ey
   have e0:s'.e=0:=e0
   subst ey
   refine iteF (by decide) ?_
   have fin:∀(v:Int) k2,h0≤k2→Blk k2 b (rdC s s')→(∀u,immOf op w=some u→v=u)→(if (!(immOf op w).isSome)=true then
     Call0 Tryz.prog zau [(.pointer (some ⟨b,0,none⟩)),(.int .i64 (4:Int)),(.int .i64 (f:Int))] (fun h4=>Q v h4) k2
     else
     LetW ((op==(22:Int)) || (op==(23:Int))) fun y=>
     LetW ((decide (v<(0:Int))) || (decide (v>n))) fun y1=>
     LetW (y&&y1) fun y2=>
     (if y2=true then
     Call0 Tryz.prog zau [(.pointer (some ⟨b,0,none⟩)),(.int .i64 (12:Int)),(.int .i64 (f:Int))] (fun h4=>Q v h4) k2
     else
     LetW ((op==(29:Int)) || (op==(30:Int))) fun y3=>
     LetW ((decide (v<(0:Int))) || (decide (v≥(8:Int)))) fun y4=>
     LetW (y3&&y4) fun y5=>
     (if y5=true then
     Call0 Tryz.prog zau [(.pointer (some ⟨b,0,none⟩)),(.int .i64 (13:Int)),(.int .i64 (f:Int))] (fun h4=>Q v h4) k2
     else Q v k2))):=by
    intro v k2 l2 kk2 hv
    have bad:∀(er:Int),er≠0→(∀h',h0≤h'→Blk h' b (rdC s ⟨s'.pos,er,f⟩)→Q v h')→Call0 Tryz.prog zau [(.pointer (some ⟨b,0,none⟩)),(.int .i64 er),(.int .i64 (f:Int))] (fun h4=>Q v h4) k2:=by
     intro er _ hq
     refine zdd (zce1 l2 hb kk2 fun h' l' k'=>hq h' l' ?_)
     unfold giveR at k'
     rw [if_pos e0] at k'
     exact k'
    cases hm:immOf op w with
    | none=>
     simp only [hm] at hk
     exact iteT rfl (bad 4 (by decide) fun h' l' k'=>hk h' v l' k' fun hh=>absurd hh (by decide))
    | some u=>
     obtain rfl:=hv u hm
     simp only [hm] at hk
     refine iteF (by simp) (letW (letW (letW ?_)))
     unfold immE at hk
     by_cases h6:(op=22∨op=23)∧(v<0∨n<v)
     ·simp only [if_pos h6] at hk
      rw [if_neg (by decide)] at hk
      refine iteT ?_ (bad 12 (by decide) fun h' l' k'=>hk h' v l' k' fun hh=>absurd hh (show ¬(12:Int)=0 by decide))
      simp only [Bool.and_eq_true,Bool.or_eq_true,beq_iff_eq,decide_eq_true_eq]
      omega
     ·simp only [if_neg h6] at hk
      refine iteF ?_ (letW (letW (letW ?_)))
      ·simp only [Bool.and_eq_true,Bool.or_eq_true,beq_iff_eq,decide_eq_true_eq]
       omega
      by_cases h7:(op=29∨op=30)∧(v<0∨8≤v)
      ·simp only [if_pos h7] at hk
       rw [if_neg (by decide)] at hk
       refine iteT ?_ (bad 13 (by decide) fun h' l' k'=>hk h' v l' k' fun hh=>absurd hh (show ¬(13:Int)=0 by decide))
       simp only [Bool.and_eq_true,Bool.or_eq_true,beq_iff_eq,decide_eq_true_eq]
       omega
      ·simp only [if_neg h7] at hk
       rw [if_pos trivial] at hk
       refine iteF ?_ (hk k2 v l2 kk2 fun _=>rfl)
       simp only [Bool.and_eq_true,Bool.or_eq_true,beq_iff_eq,decide_eq_true_eq]
       omega
   have hts:(txtB w).size≤281474976710656:=by rw [zhr];omega
   by_cases h1:op=1
   ·have hm:immOf op w=setOf w:=if_pos h1
    refine JoinW1.intro (fun r k=>k=h'∧r=⟨zes1, #[], #[]⟩) (iteT (beq_iff_eq.2 h1) ⟨rfl,rfl⟩) ?_
    rintro _ k ⟨rfl,rfl⟩
    refine zgm2 rfl (zmn1 (zca2 (e.mono l') hts fun k2 v l2 hv=> ?_))
    rw [zbc] at hv ⊢
    rw [←hm] at hv ⊢
    exact fin v k2 (Hp.le_trans l' l2) (k'.le l2) hv
   ·have hm:immOf op w=intV w:=if_neg h1
    refine JoinW1.intro (fun r k=>k=h'∧r=⟨zuv, #[], #[]⟩) (iteF (fun hh=>h1 (beq_iff_eq.1 hh)) ⟨rfl,rfl⟩) ?_
    rintro _ k ⟨rfl,rfl⟩
    refine zgm2 rfl (zyh (zfy1 (e.mono l') hts fun k2 v l2 hv=> ?_))
    rw [zbc] at hv ⊢
    rw [←hm] at hv ⊢
    exact fin v k2 (Hp.le_trans l' l2) (k'.le l2) hv
end
end Lf

namespace Lf
open Go Go.Proofs Go.RowKit
section
variable {h0 h:Hp} {b:Nat} {s:ByteArray}
theorem ziu2 {n:Int} {Q:S_api_Ins→Hp→Prop} (hw:h0≤h) (hb:h0 b=none) (e:VEnv h0) (kb:Blk h b (rdC s ⟨0,0,0⟩)) (hs:s.size≤281474976710656)
  (hk:∀h' x,h0≤h'→Blk h' b (rdC s (insR s.data.toList n).2)→((insR s.data.toList n).2.e=0→insOf x=(insR s.data.toList n).1)→Q x h'):zou Tryz.prog (some ⟨b,0,none⟩) n Q h:=by
 unfold zou
 have hl:=zkj s
 have hw0:hd s.data.toList 32=zhl s.data.toList 0:=by unfold hd zhl;rw [List.drop_zero]
 refine rd_s kb (zhv (zrq1 (c:=32) (by omega) ?_))
 rw [hw0]
 have hwl:=zuj s.data.toList 0
 unfold insR at hk
 refine zql1 (zfj2 (fun k ho=> ?_) fun ho=> ?_)
 ·rw [zbc] at ho
  simp only [ho] at hk
  have hk34:=(zof1 ho).1
  refine iteF (by decide) (zuv1 hw hb kb (by decide) fun h2 l2 k2=> ?_)
  rw [zhr] at k2
  have k2:Blk h2 b (rdC s ⟨(zhl s.data.toList 0).length,0,0⟩):=k2
  have i0:InR s.data.toList ⟨(zhl s.data.toList 0).length,0,0⟩:=⟨by show (zhl s.data.toList 0).length≤_;omega,Nat.zero_le _⟩
  refine zpf (zvq fun h3 l3=> ?_)
  dsimp only
  have l3:=Hp.le_trans l2 l3
  have k3:=k2.le (by assumption)
  generalize hF:zak (k:Int)=F at*
  refine zhb (zci2 l3 hb e k3 (by omega) (by rw [←hl];exact i0.1) fun h4 l4 k4=> ?_)
  have i1:=zcd1 (has:=F.1) i0
  refine zhb (zci2 l4 hb e k4 (by omega) (by rw [←hl];exact i1.1) fun h5 l5 k5=> ?_)
  have i2:=zcd1 (has:=F.2.1) i1
  refine zhb (zci2 l5 hb e k5 (by omega) (by rw [←hl];exact i2.1) fun h6 l6 k6=> ?_)
  have i3:=zcd1 (has:=F.2.2.1) i2
  generalize regR s.data.toList ⟨(zhl s.data.toList 0).length,0,0⟩ F.1=p1 at*
  generalize regR s.data.toList p1.2 F.2.1=p2 at*
  generalize regR s.data.toList p2.2 F.2.2.1=p3 at*
  have i4:=zuo1 (n:=n) (op:=(k:Int)) (has:=F.2.2.2) i3
  refine JoinW1.intro (fun x k'=>h0≤k'∧Blk k' b (rdC s (restR s.data.toList n (k:Int) F.2.2.2 p3.2).2)∧((restR s.data.toList n (k:Int) F.2.2.2 p3.2).2.e=0→x=⟨(k:Int),p1.1,p2.1,p3.1,(restR s.data.toList n (k:Int) F.2.2.2 p3.2).1⟩)) ?_ ?_
  ·unfold restR
   cases hF4:F.2.2.2 with
   | true=>exact iteT rfl (zwh (zjx2 l6 hb e k6 hs (by rw [←hl];exact i3.1) fun h7 r l7 k7 hr=>⟨l7,k7,fun he=>by rw [hr he];rfl⟩))
   | false=>exact iteF (by decide) ⟨l6,k6,fun _=>rfl⟩
  rintro x h7 ⟨l7,k7,hx⟩
  generalize restR s.data.toList n (k:Int) F.2.2.2 p3.2=p4 at*
  refine zom1 k7 (rd_s k7 ?_)
  unfold endR at hk
  by_cases h8:p4.2.pos<s.data.toList.length
  ·simp only [if_pos h8] at hk
   have h8':(p4.2.pos:Int)<((s.size:Nat):Int):=by omega
   refine iteT (decide_eq_true h8') (zom1 k7 (zdd (zce1 l7 hb k7 fun h9 l9 k9=>hk h9 x l9 k9 fun he=> ?_)))
   exact absurd he (zfs1 (by decide))
  ·simp only [if_neg h8] at hk
   refine iteF (fun hh=>h8 (by have h9:(p4.2.pos:Int)<((s.size:Nat):Int):=of_decide_eq_true hh;omega)) (hk h7 x l7 k7 fun he=> ?_)
   rw [hx he]
   rfl
 ·rw [zbc] at ho
  simp only [ho] at hk
  refine iteT rfl (zdd (zce1 (n:=0) hw hb kb fun h2 l2 k2=>hk h2 _ l2 k2 fun he=> ?_))
  exact absurd he (show ¬(9:Int)=0 by decide)
def eIns (x:S_api_Ins):List Value:=zai (sh_api_Ins.enc x)
theorem zvs {t:ByteArray} {Q:Sl→Int→Int→Int→Hp→Prop} (e:VEnv h) (hs:t.size≤281474976710656)
  (hk:∀h' l xs,h≤h'→Own h h' 5 eIns l xs→xs.map insOf=(zia t.data.toList).1→Q l (zia t.data.toList).2.1 (zia t.data.toList).2.2.1 (zia t.data.toList).2.2.2 h'):zyy Tryz.prog t Q h:=by
 unfold zyy
 refine zbz2 ?_
 unfold zia at hk
 generalize ((t.data.toList.count 10:Nat):Int)=n at*
 generalize hres:zjs n (t.data.toList.length+1) t.data.toList 1 []=res at*
 refine LoopW3.intro (fun l rest i k=>h≤k∧∃(kf:Nat) (xs:List S_api_Ins),rest.data.toList.length<kf∧rest.size≤t.size∧Own h k 5 eIns l xs∧(xs.length:Int)+1=i∧i≤257∧zjs n kf rest.data.toList i (xs.map insOf)=res) (fun _ rest _ _=>rest.size)
  ⟨Hp.le_refl h,_,[],Nat.lt_succ_self _,Nat.le_refl _,⟨rfl,Nat.le_refl _,.inl ⟨rfl,rfl⟩⟩,rfl,by decide,hres⟩ ?_
 rintro l rest i k ⟨lk,kf,xs,hkf,hrs,o,hi,hi2,hp⟩
 obtain ⟨kf,rfl⟩:∃m,kf=m+1:=⟨kf-1,by omega⟩
 have hl:=zkj rest
 unfold zjs at hp
 by_cases h1:rest.data.toList=[]
 ·rw [if_pos h1] at hp
  refine iteF (fun hh=> ?_) ?_
  ·rw [Bool.not_eq_true',Bool.eq_false_iff] at hh
   exact hh (txt_beq.2 (by rw [h1]))
  ·have:=hk k l xs lk o (by rw [←hp])
   rw [←hp] at this
   exact this
 rw [if_neg h1] at hp
 refine iteT (by rw [Bool.not_eq_true',Bool.eq_false_iff];exact fun hh=>h1 (txt_beq.1 hh)) (zhv (zrq1 (c:=10) (by omega) ?_))
 by_cases h2:256<i
 ·rw [if_pos h2] at hp
  refine iteT (decide_eq_true h2) ?_
  have:=hk k ⟨none,0,0⟩ [] lk ⟨rfl,Nat.le_refl _,.inl ⟨rfl,rfl⟩⟩ (by rw [←hp];rfl)
  rw [←hp] at this
  exact this
 rw [if_neg h2] at hp
 refine iteF (fun hh=>h2 (of_decide_eq_true hh)) ?_
 have hle:=hd_le rest.data.toList 10
 simp only at hp
 have eh:rest.data.toList.takeWhile (· !=10)=hd rest.data.toList 10:=rfl
 rw [eh,hl] at hp
 generalize hd rest.data.toList 10=L at*
 intro b ty hb
 have hle2:=ziv (o:=.cells [Value.string (txtB L),.int .i64 0,.int .i64 0,.int .i64 0].toArray ty (0,0)) hb
 have kb:Blk (k.set b (.cells [Value.string (txtB L),.int .i64 0,.int .i64 0,.int .i64 0].toArray ty (0,0))) b (rdC (txtB L) ⟨0,0,0⟩):=⟨ty,zec⟩
 generalize k.set b (.cells [Value.string (txtB L),.int .i64 0,.int .i64 0,.int .i64 0].toArray ty (0,0))=k1 at*
 refine zzk (ziu2 (h0:=k) hle2 hb (e.mono lk) kb (by rw [zhr];omega) fun k2 x l2 kb2 hx=> ?_)
 rw [zbc] at kb2 hx
 refine JoinW0.intro (fun k'=>k≤k'∧Blk k' b (rdC (txtB L) (if L.length=rest.size then giveR (insR L n).2 5 L.length else (insR L n).2))) ?_ ?_
 ·by_cases h3:L.length=rest.size
  ·rw [if_pos h3]
   refine iteT (by simp [h3]) ?_
   rw [zhr]
   exact zdd (zce1 l2 hb kb2 fun h' l' k'=>⟨l',k'⟩)
  ·rw [if_neg h3]
   exact iteF (by simp [h3]) ⟨l2,kb2⟩
 rintro k3 ⟨l3,kb3⟩
 have he3:(if L.length=rest.size then giveR (insR L n).2 5 L.length else (insR L n).2).e=0→(insR L n).2.e=0∧L.length≠rest.size:=by
  intro he
  by_cases h3:L.length=rest.size
  ·rw [if_pos h3] at he
   exact absurd he (zfs1 (by decide))
  ·rw [if_neg h3] at he
   exact ⟨he,h3⟩
 generalize (if L.length=rest.size then giveR (insR L n).2 5 L.length else (insR L n).2)=st at*
 refine rd_e kb3 ?_
 by_cases h4:st.e≠0
 ·rw [if_pos h4] at hp
  refine iteT (bne_iff_ne.2 h4) (rd_e kb3 (zjw2 kb3 ?_))
  have:=hk k3 ⟨none,0,0⟩ [] (Hp.le_trans lk l3) ⟨rfl,Nat.le_refl _,.inl ⟨rfl,rfl⟩⟩ (by rw [←hp];rfl)
  rw [←hp] at this
  exact this
 rw [if_neg h4] at hp
 refine iteF (fun hh=>h4 (bne_iff_ne.1 hh)) ?_
 obtain ⟨h5,h6⟩:=he3 (Classical.not_not.1 h4)
 have hx:=hx h5
 have lk3:=Hp.le_trans lk l3
 refine zbu1 (enc:=eIns) (ys:=[x]) lk3 (o.mono l3) (by rfl) rfl (fun _=>rfl) (fun _=>rfl) rfl (by simp only [List.length_singleton];omega) fun l' k4 l4 o4 _=> ?_
 rw [zae (by omega) (by omega)]
 refine ⟨⟨l4,kf,xs++ [x],?_,?_,o4,?_,by omega,?_⟩,?_⟩
 ·rw [zbc,List.length_drop]
  have:0<rest.data.toList.length:=List.length_pos_iff.2 h1
  omega
 ·rw [zhr,List.length_drop];omega
 ·rw [List.length_append,List.length_singleton];omega
 ·rw [zbc,List.map_append,List.map_cons,List.map_nil,hx]
  exact hp
 ·rw [zhr,List.length_drop]
  have:0<rest.data.toList.length:=List.length_pos_iff.2 h1
  omega
end
end Lf



namespace Lf
open Go
theorem eqF {P:Program} (d:Nat) (xs ys:Array Value):∀(L:List (Field×IntKind×Int×Int)) (w:World),
    (∀q∈L,q.1.name≠ "_" ∧P.underlying q.1.type=some (.int q.2.1)∧xs[q.1.offset]? =some (.int q.2.1 q.2.2.1)∧ys[q.1.offset]? =some (.int q.2.1 q.2.2.2))→
    (Op.eqFields (d+1) xs ys (L.map (·.1))).run P w=.ok (L.all fun q=>q.2.2.1==q.2.2.2) w
  | [],w,_=>by simp [Op.eqFields]
  | q::L,w,h=>by
    obtain ⟨h1,h2,h3,h4⟩:=h q (List.mem_cons_self ..)
    have ih:=eqF d xs ys L w fun q' hq=>h q' (List.mem_cons_of_mem _ hq)
    have hag:(isAgg q.1.type).run P w=.ok false w:=by simp [isAgg,run_underlying h2]
    simp only [List.map_cons,Op.eqFields,Sem.run_bind,if_pos h1,part,hag,Result.andThen_ok,Bool.false_eq_true,if_false,h3,h4,Sem.run_pure,run_equalIn_int w d q.1.type q.2.1 q.2.1 q.2.2.1 q.2.2.2 h2]
    cases hb:(q.2.2.1==q.2.2.2) with
    | false=>simp [hb]
    | true=>simp [hb,ih]
theorem zcj2 {P:Program} {t:Nat} {x y:Operand} {h:Hp} {xs ys:Array Value} (L:List (Field×IntKind×Int×Int)) (hu:P.underlying t=some (.struct (L.map (·.1)).toArray)) (hg:P.eqGuardType P.depth t=false) (hp:P.stoodInHeld t=false)
    (hL:∀q∈L,q.1.name≠ "_" ∧P.underlying q.1.type=some (.int q.2.1)∧xs[q.1.offset]? =some (.int q.2.1 q.2.2.1)∧ys[q.1.offset]? =some (.int q.2.1 q.2.2.2)):
    SemIs P (binS .eql t x y (.agg xs) (.agg ys)) h (.bool (L.all fun q=>q.2.2.1==q.2.2.2)):=by
  refine zwl fun w=> ?_
  have hf:P.fieldsOf t=(L.map (·.1)).toArray:=by unfold Program.fieldsOf;rw [hu]
  have ht:P.underlying t=some (.struct (P.fieldsOf t)):=by rw [hf];exact hu
  have h1:=run_equalIn_struct (P:=P) w 9999 t xs ys ht hp
  rw [hf] at h1
  have h2:=eqF (P:=P) 9998 xs ys L w hL
  unfold binS
  simp only [Sem.run_bind,run_eqGuard_agg w .eql t x y xs ys hg,Result.andThen_ok,run_eql_struct]
  rw [show (10000:Nat)=9999+1 from rfl,h1]
  simp only [h2,Result.andThen_ok]
end Lf

namespace Lf
open Go Go.Proofs Go.RowKit
section
variable {h:Hp}
theorem zxe1 {P:Program} {t:Nat} {x y:Operand} {xs ys:Array Value} (L:List (Field×IntKind×Int×Int)) (hu:P.underlying t=some (.struct (L.map (·.1)).toArray)) (hg:P.eqGuardType P.depth t=false) (hp:P.stoodInHeld t=false)
  (hL:∀q∈L,q.1.name≠ "_" ∧P.underlying q.1.type=some (.int q.2.1)∧xs[q.1.offset]? =some (.int q.2.1 q.2.2.1)∧ys[q.1.offset]? =some (.int q.2.1 q.2.2.2)):
  SemIs P (binS .neq t x y (.agg xs) (.agg ys)) h (.bool (!(L.all fun q=>q.2.2.1==q.2.2.2))):=by
 refine zwl fun w=> ?_
 have hf:P.fieldsOf t=(L.map (·.1)).toArray:=by unfold Program.fieldsOf;rw [hu]
 have ht:P.underlying t=some (.struct (P.fieldsOf t)):=by rw [hf];exact hu
 have h1:=run_equalIn_struct (P:=P) w 9999 t xs ys ht hp
 rw [hf] at h1
 have h2:=eqF (P:=P) 9998 xs ys L w hL
 unfold binS
 simp only [Sem.run_bind,run_eqGuard_agg w .neq t x y xs ys hg,Result.andThen_ok,run_neq_struct]
 rw [show (10000:Nat)=9999+1 from rfl,h1]
 simp only [h2,Result.andThen_ok]
def sameI (x y:S_api_Ins):Bool:=x.Op==y.Op&&(x.A==y.A&&(x.B==y.B&&(x.C==y.C&&x.Imm==y.Imm)))
theorem sameI_iff {x y:S_api_Ins}:sameI x y=true↔insOf x=insOf y:=by
 unfold sameI insOf
 simp
theorem zoo1 {x y:S_api_Ins} {p q:Operand}:SemIs Tryz.prog (binS .neq 44 p q x.v y.v) h (.bool (!(sameI x y))):=by
 have:=zxe1 (h:=h) (P:=Tryz.prog) (t:=44) (x:=p) (y:=q) (xs:= #[.int .i64 x.Op,.int .i64 x.A,.int .i64 x.B,.int .i64 x.C,.int .i64 x.Imm]) (ys:= #[.int .i64 y.Op,.int .i64 y.A,.int .i64 y.B,.int .i64 y.C,.int .i64 y.Imm])
  [(⟨ "Op",3,0,false, "", "",0⟩,.i64,x.Op,y.Op),(⟨ "A",3,1,false, "", "",8⟩,.i64,x.A,y.A),(⟨ "B",3,2,false, "", "",16⟩,.i64,x.B,y.B),(⟨ "C",3,3,false, "", "",24⟩,.i64,x.C,y.C),(⟨ "Imm",2,4,false, "", "",32⟩,.i64,x.Imm,y.Imm)]
  (tb_ok.und 44 ty44 rfl) (by kernel_rfl) (by kernel_rfl) (fun q hq=>by
   simp only [List.mem_cons,List.not_mem_nil,or_false] at hq
   rcases hq with rfl | rfl | rfl | rfl | rfl
   ·exact ⟨by simp,tb_ok.und 3 ty3 rfl,rfl,rfl⟩
   ·exact ⟨by simp,tb_ok.und 3 ty3 rfl,rfl,rfl⟩
   ·exact ⟨by simp,tb_ok.und 3 ty3 rfl,rfl,rfl⟩
   ·exact ⟨by simp,tb_ok.und 3 ty3 rfl,rfl,rfl⟩
   ·exact ⟨by simp,tb_ok.und 2 ty2 rfl,rfl,rfl⟩)
 have e:sameI x y=[(⟨ "Op",3,0,false, "", "",0⟩,IntKind.i64,x.Op,y.Op),(⟨ "A",3,1,false, "", "",8⟩,.i64,x.A,y.A),(⟨ "B",3,2,false, "", "",16⟩,.i64,x.B,y.B),(⟨ "C",3,3,false, "", "",24⟩,.i64,x.C,y.C),((⟨ "Imm",2,4,false, "", "",32⟩:Field),.i64,x.Imm,y.Imm)].all (fun q=>q.2.2.1==q.2.2.2):=by
  unfold sameI
  simp only [List.all_cons,List.all_nil,Bool.and_true]
 rw [e]
 exact this
theorem zck2 {a b:Sl} {is js:List S_api_Ins} {Q:Bool→Hp→Prop} (ra:InsS h a is) (rb:InsS h b js) (hn:is.length≤140737488355328) (h1:is.map insOf=js.map insOf→Q true h) (h0:is.map insOf≠js.map insOf→Q false h):zjb Tryz.prog a b Q h:=by
 unfold zjb
 have e1:a.len=is.length:=ra.1
 have e2:b.len=js.length:=rb.1
 by_cases hl:is.length=js.length
 ·refine iteF (fun hh=>bne_iff_ne.1 hh (by omega)) ?_
  refine LoopW1.intro (fun i k=>k=h∧∃j:Nat,i=(j:Int)∧j≤is.length∧(is.take j).map insOf=(js.take j).map insOf) (fun i _=>(is.length-i).toNat) ⟨rfl,0,rfl,by omega,rfl⟩ ?_
  rintro _ k ⟨rfl,j,rfl,hj,he⟩
  by_cases hlt:j<is.length
  ·refine iteT (decide_eq_true (by omega)) ?_
   refine Rs.get (sh:=sh_api_Ins) ra (fun _=>rfl) (by omega) (by omega) (by omega) fun x hx=>Rs.get (sh:=sh_api_Ins) rb (fun _=>rfl) (by omega) (by omega) (by omega) fun y hy=> ?_
   rw [Int.toNat_natCast] at hx hy
   refine ⟨_,zoo1,?_⟩
   by_cases hxy:insOf x=insOf y
   ·rw [sameI_iff.2 hxy]
    refine iteF (by decide) ?_
    rw [zae (by omega) (by omega)]
    refine ⟨⟨rfl,j+1,by omega,by omega,?_⟩,by omega⟩
    rw [List.take_add_one,List.take_add_one,hx,hy,List.map_append,List.map_append,he]
    show _++ [insOf x]=_++ [insOf y]
    rw [hxy]
   ·rw [Bool.eq_false_iff.2 fun hh=>hxy (sameI_iff.1 hh)]
    refine iteT rfl (h0 fun e=>hxy ?_)
    have h1:=congrArg (fun l:List PIns=>l[j]?) e
    simp only [List.getElem?_map,hx,hy] at h1
    exact Option.some.inj h1
  ·refine iteF (fun hh=>hlt (by have:(j:Int)<((a.len:Nat):Int):=of_decide_eq_true hh;omega)) ?_
   rw [List.take_of_length_le (by omega),List.take_of_length_le (by omega)] at he
   exact h1 he
 ·refine iteT (bne_iff_ne.2 (by omega)) (h0 fun e=>hl ?_)
  have:=congrArg List.length e
  rwa [List.length_map,List.length_map] at this
end
end Lf

namespace Lf
open Go Go.Proofs Go.RowKit
def awL :List PIns:=[⟨1,0,0,0,5⟩,⟨23,0,0,0,0⟩,⟨24,1,2,3,0⟩,⟨0,0,0,0,0⟩]
def awX :List S_api_Ins:=[⟨1,0,0,0,5⟩,⟨23,0,0,0,0⟩,⟨24,1,2,3,0⟩,⟨0,0,0,0,0⟩]
def awB :List UInt8:=[115,101,116,32,114,48,32,53,10,105,102,32,114,48,32,48,10,115,101,110,100,32,114,49,32,114,50,32,114,51,10,101,120,105,116,10]
def awC :List UInt8:=[101,120,105,116,10,115,101,116,32,114,48,10]
theorem awX_map :awX.map insOf=awL:=rfl
theorem zrr1 :codeP awL 8=(0,0):=by decide+kernel
theorem aw_in :∀x∈awL,InI x.imm:=by
 intro x hx
 simp only [awL,List.mem_cons,List.not_mem_nil,or_false] at hx
 unfold InI
 rcases hx with rfl | rfl | rfl | rfl<;>exact ⟨by decide,by decide⟩
theorem zux1 :∀n,n<10→decB ((n:Nat):Int)=[UInt8.ofNat (48+n)]:=by
 intro n hn
 unfold decB signL
 rw [if_neg (by omega),Int.natAbs_natCast,zbz1 hn]
 rfl
theorem zcl2 :progB awL=awB:=by
 have r0:regB 0=[114,48]:=zvp 0 (by decide)
 have r1:regB 1=[114,49]:=zvp 1 (by decide)
 have r2:regB 2=[114,50]:=zvp 2 (by decide)
 have r3:regB 3=[114,51]:=zvp 3 (by decide)
 have d0:decB 0=[48]:=zux1 0 (by decide)
 have d5:decB 5=[53]:=zux1 5 (by decide)
 have n5:numB 1 5=[53]:=by unfold numB;rw [if_neg (by decide),d5]
 have n0:numB 23 0=[48]:=by unfold numB;rw [if_neg (by decide),d0]
 have l1:lineB ⟨1,0,0,0,5⟩=[115,101,116,32,114,48,32,53]:=by
  unfold lineB
  simp only [r0,n5]
  rfl
 have l2:lineB ⟨23,0,0,0,0⟩=[105,102,32,114,48,32,48]:=by
  unfold lineB
  simp only [r0,n0]
  rfl
 have l3:lineB ⟨24,1,2,3,0⟩=[115,101,110,100,32,114,49,32,114,50,32,114,51]:=by
  unfold lineB
  simp only [r1,r2,r3]
  rfl
 have l4:lineB ⟨0,0,0,0,0⟩=[101,120,105,116]:=rfl
 unfold awL
 rw [zjo,zjo,zjo,zjo,l1,l2,l3,l4]
 rfl
theorem zfn2 :zyk awL=awB:=by
 unfold zyk
 rw [zrr1]
 exact (if_pos rfl).trans zcl2
theorem zfo2 :zia awB=(awL,0,0,0):=by
 rw [←zcl2]
 exact zfw1 (by rw [zrr1]) aw_in
theorem zop1 {n i:Int} {k:Nat} {r L:List UInt8} {acc:List PIns} {p:PIns×RS} (h0:r≠ []) (h1:¬256<i) (hL:r.takeWhile (· !=10)=L) (hn:L.length≠r.length) (hp:insR L n=p):
  zjs n (k+1) r i acc=if p.2.e≠0 then ([],p.2.e,i,(p.2.bad:Int)) else zjs n k (r.drop (L.length+1)) (i+1) (acc++ [p.1]):=by
 subst hL
 subst hp
 rw [zjs,if_neg h0,if_neg h1]
 simp only [if_neg hn]
theorem zcm2 :zia awC=([],5,2,6):=by
 have i1:insR [101,120,105,116] 2=(⟨0,0,0,0,0⟩,⟨4,0,0⟩):=zba1 (x:=⟨0,0,0,0,0⟩) (n:=2) (by decide+kernel) (by unfold InI;decide)
 have i2:(insR [115,101,116,32,114,48] 2).2=⟨6,5,6⟩:=rfl
 unfold zia
 show zjs 2 (11+1+1) awC 1 []=_
 rw [zop1 (L:=[101,120,105,116]) (by decide) (by decide) (by decide) (by decide) i1,if_neg (show ¬(0:Int)≠0 by decide),
  zop1 (L:=[115,101,116,32,114,48]) (by decide) (by decide) (by decide) (by decide) rfl,i2]
 rfl
section
variable {h:Hp}
theorem zjy2 {a b:List UInt8} (e:a=b):((ByteArray.toList (txtB a))==(ByteArray.toList (txtB b)))=true:=by
 rw [e]
 exact txt_beq.2 rfl
theorem zgd1 {Q:Bool→Hp→Prop} (e:VEnv h) (hq:∀h',h≤h'→Q true h'):zid Tryz.prog Q h:=by
 unfold zid
 refine zem1 (h0:=h) (sz:=5) (enc:=eIns) (xs:=awX) (Hp.le_refl h) rfl (fun _=>rfl) fun a h1 l1 o1=> ?_
 have r1:InsS h1 ⟨some a,4,4⟩ awX:=o1.rw fun _=>rfl
 refine zkf (zri r1 (fun x hx=>aw_in (insOf x) (List.mem_map.2 ⟨x,hx,rfl⟩)) (e.mono l1).pe fun h2 l2=> ?_)
 rw [awX_map,zfn2,zrr1]
 have l02:=Hp.le_trans l1 l2
 refine zod (zvs (t:=txtB awB) (e.mono l02) (by decide) fun h3 s3 x3 l3 o3 m3=> ?_)
 rw [zbc,zfo2] at m3 ⊢
 have l03:=Hp.le_trans l02 l3
 refine zod (zvs (t:=txtB awC) (e.mono l03) (by decide) fun h4 s4 x4 l4 o4 m4=> ?_)
 rw [zbc,zcm2] at m4 ⊢
 have c1:((ByteArray.toList (txtB awB))==(ByteArray.toList ⟨#[115,101,116,32,114,48,32,53,10,105,102,32,114,48,32,48,10,115,101,110,100,32,114,49,32,114,50,32,114,51,10,101,120,105,116,10]⟩))=true:=zjy2 (b:=awB) rfl
 refine letW (letW (letW (letW (letW ?_))))
 rw [c1]
 have r3:InsS h4 s3 x3:=(o3.mono l4).rw fun _=>rfl
 have r4:InsS h4 ⟨some a,4,4⟩ awX:=Rw.mono (Hp.le_trans l2 (Hp.le_trans l3 l4)) r1
 have hx3:x3.length=4:=by have:=congrArg List.length m3;rwa [List.length_map] at this
 refine effB (by decide) (zlb (b:=⟨some a,4,4⟩) (zck2 r3 r4 (by omega) (fun _=> ?_) fun hn=>absurd (m3.trans awX_map.symm) hn))
 exact letW (letW (letW (letW (hq h4 (Hp.le_trans l03 l4)))))
theorem asmNames_ok {Q:Bool→Hp→Prop} (e:VEnv h) (hq:∀h',h≤h'→Q true h'):zgc Tryz.prog Q h:=by
 unfold zgc
 exact effT (zgg (zgd1 e fun h' l=>letW (hq h' l)))
theorem zcn2 {l:Sl} {xs:List S_api_Ins} {Q:Sl→Hp→Prop} (r:InsS h l xs) (hl:l.len≤l.cap) (hq:∀o:Sl,InsS h o (xs.take 1048576)→Q o h):zie Tryz.prog l Q h:=by
 unfold zie
 have e:min2I ((l.len:Nat):Int) (1048576:Int)=((min l.len 1048576:Nat):Int):=by unfold min2I;split<;>omega
 have hlen:=r.1
 rw [e]
 refine ⟨⟨by omega,by omega,by omega⟩,letW ?_⟩
 rw [Int.toNat_natCast]
 have h1:=r.head (fun _=>rfl) (b:=min l.len 1048576) (c:=min l.len 1048576) (n:=min l.len 1048576-0) (m:=min l.len 1048576-0) (by omega) (Nat.le_refl _) (by omega)
 have e2:xs.take (min l.len 1048576)=xs.take 1048576:=by
  rw [hlen]
  by_cases hx:xs.length≤1048576
  ·rw [Nat.min_eq_left hx,List.take_of_length_le (Nat.le_refl _),List.take_of_length_le hx]
  ·rw [Nat.min_eq_right (by omega)]
 rw [e2] at h1
 exact hq _ h1
theorem zco2 {xs:List S_api_Ins} (hi:∀x∈xs,InI x.Imm) (n:Nat):∀x∈xs.take n,InI x.Imm:=fun x hx=>hi x (List.mem_of_mem_take hx)
theorem asmReturns_ok {l:Sl} {xs:List S_api_Ins} {t:ByteArray} {Q:Bool→Hp→Prop} (e:VEnv h) (r:InsS h l xs) (hl:l.len≤l.cap) (hi:∀x∈xs,InI x.Imm) (hs:t.size≤281474976710656) (hq:∀h',h≤h'→Q true h'):zfg Tryz.prog l t Q h:=by
 unfold zfg
 have htl:=zkj t
 refine zgg (zgd1 e fun h1 l1=>iteF (by decide) ?_)
 refine zth (zcn2 (Rw.mono l1 r) hl fun o ro=> ?_)
 have hi':=zco2 hi 1048576
 generalize xs.take 1048576=ys at*
 refine zkf (zri ro hi' (e.mono l1).pe fun h2 l2=> ?_)
 have l02:=Hp.le_trans l1 l2
 refine zan1 (zim1 (Rw.mono l2 ro) fun h3 l3=>letW (iteF ?_ ?_))
 ·simp
 have l03:=Hp.le_trans l02 l3
 refine JoinW0.intro (fun k=>h≤k) ?_ fun k lk=> ?_
 ·by_cases hc:(codeP (ys.map insOf) 8).1=0
  ·have hpr:zyk (ys.map insOf)=progB (ys.map insOf):=if_pos hc
   have hpp:zia (progB (ys.map insOf))=(ys.map insOf,0,0,0):=zfw1 hc fun y hy=>by
    obtain ⟨x,hx,rfl⟩:=List.mem_map.1 hy
    exact hi' x hx
   obtain ⟨c1,c2⟩:=codeP_ok.1 hc
   have hbl:(progB (ys.map insOf)).length≤30000:=by
    have h1:=zxk (n:=((ys.map insOf).length:Int)) (ys.map insOf) fun y hy=>by
     obtain ⟨x,hx,rfl⟩:=List.mem_map.1 hy
     exact ⟨c2 _ hy,hi' x hx⟩
    have:(ys.map insOf).length*111≤256*111:=Nat.mul_le_mul_right _ c1
    omega
   rw [hc,hpr]
   refine iteT rfl (zod (zvs (e.mono l03) (by rw [zhr];omega) fun h4 s4 x4 l4 o4 m4=> ?_))
   rw [zbc,hpp] at m4 ⊢
   refine letW (letW (effB rfl ?_))
   have hx4:x4.length≤140737488355328:=by
    have:=congrArg List.length m4
    simp only [List.length_map] at this
    rw [List.length_map] at c1
    omega
   exact zlb (zck2 (o4.rw fun _=>rfl) (Rw.mono (Hp.le_trans l2 (Hp.le_trans l3 l4)) ro) hx4 (fun _=>letW (iteF (by simp) (Hp.le_trans l03 l4))) fun hn=>absurd m4 hn)
  ·have hpr:zyk (ys.map insOf)=[]:=if_neg hc
   refine iteF (fun hh=>hc (beq_iff_eq.1 hh)) (iteF ?_ l03)
   rw [hpr]
   intro hh
   rw [Bool.not_eq_true',Bool.eq_false_iff] at hh
   exact hh (txt_beq.2 rfl)
 ·refine zod (zvs (e.mono lk) hs fun h4 s4 x4 l4 o4 m4=> ?_)
  have l04:=Hp.le_trans lk l4
  by_cases hc:(zia t.data.toList).2.1=0
  ·obtain ⟨p1,p2,p3,p4⟩:=zrl1 hc
   refine iteF (fun hh=>bne_iff_ne.1 hh hc) ?_
   have hi4:∀x∈x4,InI x.Imm:=fun x hx=>p4 (insOf x) (by rw [←m4];exact List.mem_map.2 ⟨x,hx,rfl⟩)
   refine zkf (zri (o4.rw fun _=>rfl) hi4 (e.mono l04).pe fun h5 l5=>letW (letW (letW ?_)))
   rw [m4,p3,p1]
   have ep:zyk (zia t.data.toList).1=t.data.toList:=by
    unfold zyk
    rw [if_pos p3]
    exact p2.symm
   rw [ep,show ((ByteArray.toList (txtB t.data.toList))==(ByteArray.toList t))=true from txt_beq.2 (zbc _)]
   exact hq h5 (Hp.le_trans l04 l5)
  ·obtain ⟨p1,p2,p3,p4⟩:=zwy1 hc
   refine iteT (bne_iff_ne.2 hc) (letW (letW (letW ?_)))
   have hx0:x4=[]:=List.map_eq_nil_iff.1 (m4.trans p1)
   have h0:s4.len=0:=by rw [o4.1,hx0];rfl
   rw [h0,decide_eq_true p2,decide_eq_true p3,decide_eq_true (show (zia t.data.toList).2.2.2≤((t.size:Nat):Int) by omega)]
   exact hq h4 l04
end
end Lf

namespace Lf
open Go Go.Proofs Go.ChangeShapes Go.WideShapes Go.ChangeAt Go.RowKit
section
variable {H:Type} {enc:TypeId×Value→H} {W:World}
theorem zoq1 {fuel:Nat} {cs:List Value} {y:DataW H×List MemPlace} (hl:cs.length=5) (h:DataW.trod enc Tryz.prog W 0 (fun _=>true) true fuel 44 cs=some y):∃x:S_api_Ins,cs=eIns x∧InI x.Imm:=by
  have hu:=tb_ok.und 44 ty44 rfl
  have ui:=tb_ok.und 3 ty3 rfl
  have uj:=tb_ok.und 2 ty2 rfl
  obtain ⟨a0,h0, -⟩:=zlu hu h (i:=0) rfl ui (by kernel_rfl)
  obtain ⟨a1,h1, -⟩:=zlu hu h (i:=1) rfl ui (by kernel_rfl)
  obtain ⟨a2,h2, -⟩:=zlu hu h (i:=2) rfl ui (by kernel_rfl)
  obtain ⟨a3,h3, -⟩:=zlu hu h (i:=3) rfl ui (by kernel_rfl)
  obtain ⟨a4,h4,w4⟩:=zlu hu h (i:=4) rfl uj (by kernel_rfl)
  have h0:cs[0]? =some (.int .i64 a0):=h0
  have h1:cs[1]? =some (.int .i64 a1):=h1
  have h2:cs[2]? =some (.int .i64 a2):=h2
  have h3:cs[3]? =some (.int .i64 a3):=h3
  have h4:cs[4]? =some (.int .i64 a4):=h4
  refine ⟨⟨a0,a1,a2,a3,a4⟩,?_,?_⟩
  · match cs,hl with
    | [b0,b1,b2,b3,b4],_=>
      cases h0;cases h1;cases h2;cases h3;cases h4
      rfl
  · have:=zjb2 w4
    exact ⟨this.1,by show a4<_;omega⟩
set_option maxRecDepth 20000 in
theorem ins_in {v:Value} {d:DataW H} {ps:List MemPlace} {base:Nat} (hv:Value.okWide Tryz.prog W .any base 31 v) (h:DataW.Trod enc Tryz.prog W 0 (fun _=>true) true 31 v d ps):
    ∃(l:Sl) (xs:List S_api_Ins),v=l.v∧InsS (whole W) l xs∧l.len≤l.cap∧(∀x∈xs,InI x.Imm)∧(l.len=0∨∃el sp,d=.slice el sp∧el.length=l.len):=by
  have hc:Tryz.prog.cellsOf 44=5:=by kernel_rfl
  obtain ⟨l,xs,h1,h2,h3, -,h5,h6⟩:=zdi2 (α:=S_api_Ins) (tb_ok.und 31 ty31 rfl) eIns (fun x=>InI x.Imm) (fun fuel cs y hl hy=>zoq1 (hl.trans hc) hy) (fun x=>(show (eIns x).length=5 from rfl).trans hc.symm) hv h
  rw [hc] at h2
  exact ⟨l,xs,h1,h2,h3,h5,h6⟩
theorem zjz2 {v:Value} {cs:List Value} (h:v.cells.toList=cs) (hl:cs.length≠1):v=.agg cs.toArray:=by
  cases v with
  | agg a=>rw [←h];rfl
  | _=>subst h;simp [Value.cells] at hl
theorem one_ins {v:Value} {d:DataW H} {ps:List MemPlace} (h:DataW.Trod enc Tryz.prog W 0 (fun _=>true) true 44 v d ps):∃x:S_api_Ins,v=x.v∧InI x.Imm:=by
  obtain ⟨fuel,hf⟩:=h
  have hc:Tryz.prog.cellsOf 44=5:=by kernel_rfl
  obtain ⟨_,_,_,_,hl,_,_⟩:=DataW.trod_struct (tb_ok.und 44 ty44 rfl) hf
  obtain ⟨x,hx,hg⟩:=zoq1 (hl.trans hc) hf
  exact ⟨x,zjz2 hx (by show (5:Nat)≠1;decide),hg⟩
end
end Lf

namespace Lf
open Go Go.Proofs Go.RowKit
def zlf (ls:List (List UInt8)):List UInt8:=ls.flatMap (· ++ [10])
theorem zge1 (l:List PIns):progB l=zlf (l.map lineB):=by
 unfold progB zlf
 rw [List.flatMap_map]
def zjt (ls:List (List UInt8)) (j:Nat):Nat:=(zlf (ls.take j)).length
theorem zgf1 {ls:List (List UInt8)} {j:Nat} {a:List UInt8} (h:ls[j]? =some a):zjt ls (j+1)=zjt ls j+a.length+1:=by
 unfold zjt zlf
 rw [List.take_add_one,h,List.flatMap_append,List.length_append]
 show _+([a].flatMap (· ++ [10])).length=_
 rw [List.flatMap_cons,List.flatMap_nil,List.append_nil,List.length_append,List.length_singleton]
 omega
theorem zxf1 {ls:List (List UInt8)} {j:Nat} {a:List UInt8} (h:ls[j]? =some a):zlf ls=zlf (ls.take j)++(a++10::zlf (ls.drop (j+1))):=by
 obtain ⟨h1,h2⟩:=List.getElem?_eq_some_iff.1 h
 conv=>lhs;rw [←List.take_append_drop j ls]
 unfold zlf
 rw [List.flatMap_append,List.drop_eq_getElem_cons h1,h2,List.flatMap_cons,List.append_assoc]
 rfl
theorem zor1 (ls:List (List UInt8)) (j:Nat):zjt ls j≤(zlf ls).length:=by
 have e:zlf ls=zlf (ls.take j)++zlf (ls.drop j):=by
  conv=>lhs;rw [←List.take_append_drop j ls]
  unfold zlf
  rw [List.flatMap_append]
 unfold zjt
 rw [e,List.length_append]
 omega
theorem ziv2 {α:Type} {h0 h:Hp} {sz:Nat} {enc:α→List Value} {l:Sl} {xs:List α} (hle:h0≤h) (o:Own h0 h sz enc l xs) (henc:∀x,(enc x).length=sz) {i:Int} (hi0:0≤i) (hi1:i<(xs.length:Int)) (x:α) {K:Hp→Prop}
  (hk:∀h',h0≤h'→Own h0 h' sz enc l (xs.set i.toNat x)→K h'):InB l.base l.len i∧StW h (sat l.base sz i) (enc x) K:=by
 obtain ⟨F,hF,hf⟩:=o.ownF
 refine hF.store henc hi0 hi1 x fun h' hF' m=> ?_
 obtain ⟨h1,h2⟩:=m.le hle hf
 exact hk h' h1 (hF'.own h2)
theorem zos1 {n:Int} {y:PIns}:∀(l:List PIns) (i:Int) (k:Nat),(∀x∈l,(zhk x n 8).1=0)→k<l.length→codeR n 8 (l.set k y) i=if (zhk y n 8).1≠0 then ((zhk y n 8).1,i+(k:Int)) else (0,0)
 | [],_,_,_,hk=>by simp at hk
 | x::l,i,0,h,_=>by
  rw [List.set_cons_zero,codeR]
  by_cases hy:(zhk y n 8).1≠0
  ·rw [if_pos hy,if_pos hy];simp
  ·rw [if_neg hy,if_neg hy]
   have h1:=(zla1 l (i+1)).2 fun x hx=>h x (List.mem_cons_of_mem _ hx)
   exact Prod.ext h1 (zgb1 _ _ h1)
 | x::l,i,k+1,h,hk=>by
  rw [List.set_cons_succ,codeR,if_neg (fun hn=>hn (h x (List.mem_cons_self ..))),zos1 l (i+1) k (fun x hx=>h x (List.mem_cons_of_mem _ hx)) (by simpa using hk)]
  split
  ·congr 1
   omega
  ·rfl
section
variable {h:Hp}
theorem zuy1 {ls:List (List UInt8)} {s:ByteArray} {Q:Sl→Hp→Prop} (hs:s.data.toList=zlf ls) (hf:∀a∈ls,∀c∈a,c≠10) (hb:s.size≤1000000) (hk:∀h' o xs,h≤h'→Own h h' 1 eTx o xs→xs.map (·.data.toList)=ls→Q o h'):zif Tryz.prog s Q h:=by
 unfold zif
 have hl:=zkj s
 rw [hs] at hl
 refine zem1 (h0:=h) (sz:=1) (enc:=eTx) (xs:=([]:List ByteArray)) (Hp.le_refl h) rfl (fun _=>rfl) fun a h1 l1 o1=> ?_
 have hnum:∀j,j≤ls.length→j≤zjt ls j:=by
  intro j
  induction j with
  | zero=>intro _;omega
  | succ j ih=>
   intro hj
   obtain ⟨a,ha⟩:∃a,ls[j]? =some a:=⟨_,List.getElem?_eq_getElem (by omega)⟩
   rw [zgf1 ha]
   have:=ih (by omega)
   omega
 refine LoopW3.intro (fun out f t k=>h≤k∧∃(j m:Nat) (xs:List ByteArray),f=((zjt ls j:Nat):Int)∧t=((zjt ls j+m:Nat):Int)∧j≤ls.length∧(j=ls.length→m=0)∧(∀a,ls[j]? =some a→m≤a.length)∧Own h k 1 eTx out xs∧xs.map (·.data.toList)=ls.take j) (fun _ _ t _=>(s.size-t).toNat)
  ⟨l1,0,0,[],rfl,rfl,by omega,fun _=>rfl,fun _ _=>by omega,o1,by simp⟩ ?_
 rintro out _ _ k ⟨lk,j,m,xs,rfl,rfl,hj,hje,hm,o,hx⟩
 have hle:=zor1 ls j
 by_cases hjl:j<ls.length
 ·obtain ⟨a,ha⟩:∃a,ls[j]? =some a:=⟨_,List.getElem?_eq_getElem hjl⟩
  have hm:=hm a ha
  have hcut:=zxf1 ha
  have hstep:=zgf1 ha
  have hle2:=zor1 ls (j+1)
  have hin:(0:Int)≤((zjt ls j+m:Nat):Int)∧((zjt ls j+m:Nat):Int)<((s.size:Nat):Int):=⟨by omega,by omega⟩
  have hget:s.data.toList[zjt ls j+m]? =(a++10::zlf (ls.drop (j+1)))[m]?:=by
   rw [hs,hcut,List.getElem?_append_right (by unfold zjt;omega)]
   congr 1
   unfold zjt
   omega
  refine iteT (decide_eq_true hin.2) ?_
  by_cases hma:m<a.length
  ·have hc:s.data.toList[zjt ls j+m]? =some a[m]:=by rw [hget,List.getElem?_append_left hma,List.getElem?_eq_getElem hma]
   refine JoinW2.intro (fun o' f' k'=>k'=k∧o'=out∧f'=((zjt ls j:Nat):Int)) ⟨hin,?_⟩ ?_
   ·rw [Int.toNat_natCast,zch2 hc]
    refine iteF (fun hh=> ?_) ⟨rfl,rfl,rfl⟩
    exact hf a (List.mem_of_getElem? ha) _ (List.getElem_mem hma) ((zfm2 (n:=10) (by decide)).1 (beq_iff_eq.1 hh))
   ·rintro _ _ k' ⟨rfl,rfl,rfl⟩
    rw [zae (by omega) (by omega)]
    exact ⟨⟨lk,j,m+1,xs,rfl,by omega,hj,fun e=>by omega,fun b hb'=>by rw [ha] at hb';cases hb';omega,o,hx⟩,by omega⟩
  ·have hme:m=a.length:=by omega
   have hc:s.data.toList[zjt ls j+m]? =some 10:=by rw [hget,hme,List.getElem?_append_right (Nat.le_refl _)];simp
   refine JoinW2.intro (fun o' f' k'=>h≤k'∧f'=((zjt ls (j+1):Nat):Int)∧∃xs,Own h k' 1 eTx o' xs∧xs.map (·.data.toList)=ls.take (j+1)) ⟨hin,?_⟩ ?_
   ·rw [Int.toNat_natCast,zch2 hc]
    refine iteT rfl ⟨⟨by omega,by omega,by omega⟩,?_⟩
    have ex:s.extract (zjt ls j) (zjt ls j+m)=txtB a:=by
     rw [zky,hs,hcut]
     congr 1
     show ((zlf (ls.take j)++(a++10::zlf (ls.drop (j+1)))).take ((zlf (ls.take j)).length+m)).drop (zlf (ls.take j)).length=a
     rw [List.take_length_add_append,List.drop_left,hme,List.take_left]
    rw [Int.toNat_natCast,ex]
    have hxl:xs.length=j:=by
     have:=congrArg List.length hx
     rw [List.length_map,List.length_take] at this
     omega
    have:=hnum j hj
    refine zbu1 (enc:=eTx) (ys:=[txtB a]) lk o rfl rfl (fun _=>rfl) (fun _=>rfl) rfl (by simp only [List.length_singleton];omega) fun l' k' l2 o2 _=>⟨l2,?_,_,o2,?_⟩
    ·rw [zae (by omega) (by omega)]
     omega
    ·rw [List.map_append,hx,List.take_add_one,ha]
     show _++ [(txtB a).data.toList]=_++ [a]
     rw [zbc]
   ·rintro o' _ k' ⟨l2,rfl,xs',o2,hx2⟩
    rw [zae (by omega) (by omega)]
    exact ⟨⟨l2,j+1,0,xs',rfl,by omega,by omega,fun _=>rfl,fun _ _=>by omega,o2,hx2⟩,by omega⟩
 ·have hjn:j=ls.length:=by omega
  have hm0:=hje hjn
  have hall:zjt ls j=(zlf ls).length:=by unfold zjt;rw [hjn,List.take_of_length_le (Nat.le_refl _)]
  refine iteF (fun hh=> ?_) (hk k _ xs lk o (by rw [hx,hjn,List.take_of_length_le (Nat.le_refl _)]))
  have:((zjt ls j+m:Nat):Int)<((s.size:Nat):Int):=of_decide_eq_true hh
  omega
end
end Lf

namespace Lf
open Go Go.Proofs Go.RowKit
theorem zrs1 {h:Hp} {x y:S_api_Ins} {p q:Operand}:SemIs Tryz.prog (binS .eql 44 p q x.v y.v) h (.bool (sameI x y)):=by
 have:=zcj2 (h:=h) (P:=Tryz.prog) (t:=44) (x:=p) (y:=q) (xs:= #[.int .i64 x.Op,.int .i64 x.A,.int .i64 x.B,.int .i64 x.C,.int .i64 x.Imm]) (ys:= #[.int .i64 y.Op,.int .i64 y.A,.int .i64 y.B,.int .i64 y.C,.int .i64 y.Imm])
  [(⟨ "Op",3,0,false, "", "",0⟩,.i64,x.Op,y.Op),(⟨ "A",3,1,false, "", "",8⟩,.i64,x.A,y.A),(⟨ "B",3,2,false, "", "",16⟩,.i64,x.B,y.B),(⟨ "C",3,3,false, "", "",24⟩,.i64,x.C,y.C),(⟨ "Imm",2,4,false, "", "",32⟩,.i64,x.Imm,y.Imm)]
  (tb_ok.und 44 ty44 rfl) (by kernel_rfl) (by kernel_rfl) (fun q hq=>by
   simp only [List.mem_cons,List.not_mem_nil,or_false] at hq
   rcases hq with rfl | rfl | rfl | rfl | rfl
   ·exact ⟨by simp,tb_ok.und 3 ty3 rfl,rfl,rfl⟩
   ·exact ⟨by simp,tb_ok.und 3 ty3 rfl,rfl,rfl⟩
   ·exact ⟨by simp,tb_ok.und 3 ty3 rfl,rfl,rfl⟩
   ·exact ⟨by simp,tb_ok.und 3 ty3 rfl,rfl,rfl⟩
   ·exact ⟨by simp,tb_ok.und 2 ty2 rfl,rfl,rfl⟩)
 have e:sameI x y=[(⟨ "Op",3,0,false, "", "",0⟩,IntKind.i64,x.Op,y.Op),(⟨ "A",3,1,false, "", "",8⟩,.i64,x.A,y.A),(⟨ "B",3,2,false, "", "",16⟩,.i64,x.B,y.B),(⟨ "C",3,3,false, "", "",24⟩,.i64,x.C,y.C),((⟨ "Imm",2,4,false, "", "",32⟩:Field),.i64,x.Imm,y.Imm)].all (fun q=>q.2.2.1==q.2.2.2):=by
  unfold sameI
  simp only [List.all_cons,List.all_nil,Bool.and_true]
 rw [e]
 exact this
section
variable {h:Hp}
theorem tmodA (a:Int) {n:Nat} (hn:0<n): -(n:Int)<Int.tmod a (n:Int)∧Int.tmod a (n:Int)<(n:Int):=by
 have h1:(Int.tmod a (n:Int)).natAbs=a.natAbs%n:=by rw [Int.natAbs_tmod];rfl
 have h2:=Nat.mod_lt a.natAbs hn
 omega
theorem ziq1 {n:Int} {l:List PIns} (hr:zfu1 n l):∀a∈l.map lineB,∀c∈a,c≠10:=by
 intro a ha
 obtain ⟨x,hx,rfl⟩:=List.mem_map.1 ha
 exact zft1 (wrong_right.1 (hr x hx).1).1
theorem asmLines_ok {l:Sl} {xs:List S_api_Ins} {x:S_api_Ins} {at_:Int} {Q:Bool→Hp→Prop} (e:VEnv h) (r:InsS h l xs) (hl:l.len≤l.cap) (hi:∀x∈xs,InI x.Imm) (hx:InI x.Imm) (hq:∀h',h≤h'→Q true h'):zgd Tryz.prog l x at_ Q h:=by
 unfold zgd
 refine zgg (zgd1 e fun h1 l1=>iteF (by decide) ?_)
 have em:min2I ((l.len:Nat):Int) (300:Int)=((min l.len 300:Nat):Int):=by unfold min2I;split<;>omega
 have hlen:=r.1
 rw [em]
 refine ⟨⟨by omega,by omega,by omega⟩,letW ?_⟩
 rw [Int.toNat_natCast]
 have r1:=(Rw.mono l1 r).head (fun _=>rfl) (b:=min l.len 300) (c:=min l.len 300) (n:=min l.len 300-0) (m:=min l.len 300-0) (by omega) (Nat.le_refl _) (by omega)
 have hi1:=zco2 hi (min l.len 300)
 have hyl:(xs.take (min l.len 300)).length≤300:=by rw [List.length_take];omega
 generalize xs.take (min l.len 300)=ys at*
 generalize hy:(⟨sbase l.base 5 0 (min l.len 300),min l.len 300-0,min l.len 300-0⟩:Sl)=y at*
 have hylen:y.len=ys.length:=r1.1
 clear hy em
 refine zkf (zri r1 hi1 (e.mono l1).pe fun h2 l2=>letW ?_)
 have l02:=Hp.le_trans l1 l2
 by_cases hc:(codeP (ys.map insOf) 8).1≠0
 ·refine iteT (by rw [Bool.or_eq_true];exact .inl (bne_iff_ne.2 hc)) (letW ?_)
  rw [show ((codeP (ys.map insOf) 8).1 !=0)=true from bne_iff_ne.2 hc]
  exact hq h2 l02
 have hc0:=Classical.not_not.1 hc
 have hp:zyk (ys.map insOf)=progB (ys.map insOf):=if_pos hc0
 rw [hc0,hp]
 by_cases hn:ys.length=0
 ·have hys:ys=[]:=List.length_eq_zero_iff.1 hn
  refine iteT (by rw [hylen,hn];rfl) (letW ?_)
  rw [hys]
  have:=hq h2 l02
  rwa [show (((0:Int) !=0) || ((ByteArray.toList (txtB (progB (List.map insOf []))))==(ByteArray.toList ⟨#[]⟩)))=true from by
   rw [Bool.or_eq_true];exact .inr (txt_beq.2 rfl)]
 refine iteF (fun hh=> ?_) ⟨by omega,?_⟩
 ·rw [Bool.or_eq_true] at hh
  rcases hh with hh | hh
  ·exact absurd hh (by decide)
  ·have:=beq_iff_eq.1 hh
   omega
 obtain ⟨c1,c2⟩:=codeP_ok.1 hc0
 rw [List.length_map] at c1 c2
 refine JoinW1.intro (fun k h'=>h'=h2∧∃m:Nat,k=(m:Int)∧m<ys.length) ?_ ?_
 ·obtain ⟨t2,t1⟩:=tmodA at_ (n:=ys.length) (by omega)
  rw [hylen]
  generalize Int.tmod at_ (ys.length:Int)=t at*
  refine iteB (fun ht=> ?_) fun ht=> ?_
  ·have ht:t<0:=of_decide_eq_true ht
   rw [zae (by omega) (by omega)]
   exact ⟨rfl,(t+ys.length).toNat,by omega,by omega⟩
  ·have ht:¬t<0:=fun hh=>ht (decide_eq_true hh)
   exact ⟨rfl,t.toNat,by omega,by omega⟩
 rintro _ h3 ⟨rfl,m,rfl,hm⟩
 obtain ⟨z,hz⟩:∃z,ys[m]? =some z:=⟨_,List.getElem?_eq_getElem hm⟩
 refine zem1 (h0:=h3) (sz:=5) (enc:=eIns) (xs:=([]:List S_api_Ins)) (Hp.le_refl _) rfl (fun _=>rfl) fun a h4 l4 o4=> ?_
 have r4:InsS h4 y ys:=Rw.mono (Hp.le_trans l2 l4) r1
 refine zpr1 (h0:=h3) (enc:=eIns) l4 o4 r4 (fun _=>rfl) (fun _=>rfl) rfl (by simp only [List.length_nil];omega) fun l5 h5 l35 o5 _=> ?_
 rw [List.nil_append] at o5
 refine ziv2 (enc:=eIns) l35 o5 (fun _=>rfl) (by omega) (by omega) x fun h6 l36 o6=> ?_
 rw [Int.toNat_natCast] at o6
 have hiz:∀w∈ys.set m x,InI w.Imm:=fun w hw=>by
  rcases List.mem_or_eq_of_mem_set hw with hw | rfl
  ·exact hi1 w hw
  ·exact hx
 have l06:=Hp.le_trans l02 l36
 have r6:InsS h6 y ys:=Rw.mono (Hp.le_trans l2 l36) r1
 refine zkf (zri (o6.rw fun _=>rfl) hiz (e.mono l06).pe fun h7 l7=> ?_)
 have l07:=Hp.le_trans l06 l7
 have ecz:codeP ((ys.set m x).map insOf) 8=if (zhk (insOf x) ys.length 8).1≠0 then ((zhk (insOf x) ys.length 8).1,(m:Int)) else (0,0):=by
  unfold codeP
  rw [if_neg (by decide),List.length_map,List.length_set,if_neg (by omega),List.map_set,zos1 _ 0 m (fun w hw=>by have:=c2 w hw;exact this) (by rw [List.length_map];exact hm),Int.zero_add]
 by_cases hw:(zhk (insOf x) ys.length 8).1≠0
 ·rw [if_pos hw] at ecz
  rw [ecz]
  refine iteT (bne_iff_ne.2 hw) (effB (beq_self_eq_true _) (zxd ?_))
  rw [hylen]
  refine zur1 fun h8 l8=>letW ?_
  rw [beq_self_eq_true,beq_self_eq_true]
  exact hq h8 (Hp.le_trans l07 l8)
 have hw0:=Classical.not_not.1 hw
 rw [if_neg hw] at ecz
 have hpz:zyk ((ys.set m x).map insOf)=progB ((ys.set m x).map insOf):=if_pos (by rw [ecz])
 rw [hpz,ecz]
 have rA:zfu1 (ys.length:Int) (ys.map insOf):=fun w hw=>⟨c2 w hw,by
  obtain ⟨u,hu,rfl⟩:=List.mem_map.1 hw
  exact hi1 u hu⟩
 have rB:zfu1 (ys.length:Int) ((ys.set m x).map insOf):=fun w hw=>by
  obtain ⟨u,hu,rfl⟩:=List.mem_map.1 hw
  rcases List.mem_or_eq_of_mem_set hu with hu | rfl
  ·exact rA _ (List.mem_map.2 ⟨u,hu,rfl⟩)
  ·exact ⟨hw0,hx⟩
 have bA:=zxk _ rA
 have bB':=zxk _ rB
 rw [List.length_map] at bA bB'
 rw [List.length_set] at bB'
 refine iteF (by decide) (zkg (zuy1 (ls:=(ys.map insOf).map lineB) (by rw [zbc,zge1]) (ziq1 rA) (by rw [zhr];omega) fun h8 oa us l8 ooa ea=> ?_))
 refine zkg (zuy1 (ls:=((ys.set m x).map insOf).map lineB) (by rw [zbc,zge1]) (ziq1 rB) (by rw [zhr];omega) fun h9 ob bs l9 oob eb=>letW ?_)
 have hal:us.length=ys.length:=by have:=congrArg List.length ea;simpa using this
 have hbl:bs.length=ys.length:=by have:=congrArg List.length eb;simpa using this
 have ha1:=ooa.1
 have hb1:=oob.1
 refine iteF (by rw [ha1,hb1,hylen,hal,hbl];simp) ?_
 have l79:=Hp.le_trans l8 l9
 have l09:=Hp.le_trans l07 l79
 have ra:Rs h9 shStr 1 oa us:=(ooa.mono l9).rw fun _=>rfl
 have rb:Rs h9 shStr 1 ob bs:=oob.rw fun _=>rfl
 have ry:InsS h9 y ys:=Rw.mono (Hp.le_trans l7 l79) r6
 refine LoopW1.intro (fun t k=>k=h9∧∃j:Nat,t=(j:Int)∧j≤ys.length) (fun t _=>(ys.length-t).toNat) ⟨rfl,0,rfl,by omega⟩ ?_
 rintro _ k ⟨rfl,j,rfl,hj⟩
 by_cases hlt:j<ys.length
 ·refine iteT (decide_eq_true (by omega)) ?_
  obtain ⟨u,hu⟩:∃u,ys[j]? =some u:=⟨_,List.getElem?_eq_getElem hlt⟩
  refine Rs.get (sh:=shStr) ra (fun _=>rfl) (by omega) (by omega) (by omega) fun sa hsa=>Rs.get (sh:=shStr) rb (fun _=>rfl) (by omega) (by omega) (by omega) fun sb hsb=> ?_
  rw [Int.toNat_natCast] at hsa hsb
  have esa:sa.data.toList=lineB (insOf u):=by
   have:=congrArg (fun l:List (List UInt8)=>l[j]?) ea
   simp only [List.getElem?_map,hsa,hu] at this
   exact Option.some.inj this
  have esb:sb.data.toList=lineB (insOf (if j=m then x else u)):=by
   have:=congrArg (fun l:List (List UInt8)=>l[j]?) eb
   simp only [List.getElem?_map,hsb] at this
   by_cases hjm:j=m
   ·subst hjm
    rw [List.getElem?_set_self hlt] at this
    rw [if_pos rfl]
    exact Option.some.inj this
   ·rw [List.getElem?_set_ne (fun e=>hjm e.symm),hu] at this
    rw [if_neg hjm]
    exact Option.some.inj this
  refine Rs.getC (sh:=sh_api_Ins) ry z (fun _=>rfl) (by omega) (fun _=>⟨by omega,by omega⟩) fun v hv=> ?_
  refine ⟨sameI x v,fun _=>zrs1,letW ?_⟩
  have key:(((ByteArray.toList sa)==(ByteArray.toList sb))==((((j:Nat):Int) !=((m:Nat):Int)) || sameI x v))=true:=by
   by_cases hjm:j=m
   ·subst hjm
    rw [if_pos rfl] at esb
    have hv:=hv (by simp)
    rw [Int.toNat_natCast,hu] at hv
    obtain rfl:=Option.some.inj hv
    have e1:(((j:Nat):Int) !=((j:Nat):Int))=false:=by simp
    rw [e1,Bool.false_or,beq_iff_eq,Bool.eq_iff_iff,txt_beq,sameI_iff,esa,esb]
    constructor
    ·intro hh
     exact zfc2 hw0 hx (rA _ (List.mem_map.2 ⟨u,List.mem_of_getElem? hu,rfl⟩)).1 (hi1 u (List.mem_of_getElem? hu)) hh.symm
    ·intro hh
     rw [hh]
   ·rw [if_neg hjm] at esb
    have e1:(((j:Nat):Int) !=((m:Nat):Int))=true:=bne_iff_ne.2 fun e=>hjm (by omega)
    rw [e1,Bool.true_or,beq_iff_eq]
    exact txt_beq.2 (esa.trans esb.symm)
  rw [key]
  refine iteF (by decide) ?_
  rw [zae (by omega) (by omega)]
  exact ⟨⟨rfl,j+1,by omega,by omega⟩,by omega⟩
 ·exact iteF (fun hh=>hlt (by have:(j:Int)<((oa.len:Nat):Int):=of_decide_eq_true hh;omega)) (hq k l09)
end
end Lf

