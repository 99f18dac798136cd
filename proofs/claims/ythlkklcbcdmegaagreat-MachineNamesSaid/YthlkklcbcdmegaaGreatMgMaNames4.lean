/-
  Part 5 of the texts that the claim leans on.
-/
import Derived.RangeFuncFrom
import Derived.RangeFuncBound
import Derived.RangeFuncCalls
import Derived.RangeFuncLeaves
import Derived.Shelf.Abstract
import Derived.Shelf.RegionOpen
import Derived.WalkKit
import Derived.OwnWalkIn
import Derived.TacticsInMore
import Derived.LoopNIn
import Derived.LoopIn
import Derived.Test.YthlkklcbcdmegaaGreatProg
import Derived.ChangeKeysEq
import Derived.ProofKit
import Derived.SizedLaws
import Derived.OpenShut
import Derived.Laws.IdiomStrings
import Derived.Test.YthlkklcbcdmegaaGreatMgMaNames3
set_option maxRecDepth 100000
namespace Lf
open Go
section
variable {c:PCfg} {fl:Nat->Nat->Bool} {s:MS} {T:Int} {p:Nat} {t:Int} {x:PProcess} {z:Prop} {X Z:Nat->Prop}
theorem Good.locks {X':Nat->Prop} (g:Good c fl s X Z T) {i:Nat} {y:PPart} (pm:PartM c T i y)
  (hown:∀(k:Nat) o,y.owners[k]?=some o->o= -1\/(0<=o/\o.toNat<nQ c/\pOf c o.toNat=i/\(zbv (s.proc o.toNat)=true\/Z o.toNat)))
  (hque:∀(k:Nat) q',y.queues[k]?=some q'->∃q,(s.part i).queues[k]?=some q/\q'.Sublist q/\(q'≠ []->∃o,y.owners[k]?=some o/\o≠ -1/\o∉q')/\∀z∈q',¬X' z.toNat)
  (hlost:∀(k:Nat) q,(s.part i).queues[k]?=some q->∃q',y.queues[k]?=some q'/\∀z∈q,z∈q'\/X' z.toNat\/Z z.toNat)
  (hz:∀q,Z q->(s.proc q).state≠3)
  (hx:∀q,X q->X' q) (hx':∀q,X' q->X q\/(¬Z q/\(s.proc q).state=3/\pOf c q=i)):Good c fl (s.setI i y) X' Z T where
 tick:=g.tick
 part j hj:=by
  by_cases e:j=i
  ·subst e;rw [zji];exact pm
  ·rw [zko e];exact g.part j hj
 proc:=g.proc
 own j hj k o h:=by
  by_cases e:j=i
  ·subst e;rw [zji] at h;exact hown k o h
  ·rw [zko e] at h;exact g.own j hj k o h
 que j hj k q h:=by
  by_cases e:j=i
  ·subst e
   rw [zji] at h ⊢
   obtain ⟨q0,h1,h2,h3,h4⟩:=hque k q h
   obtain ⟨b1,b2,b3⟩:=g.que j hj k q0 h1
   refine ⟨b1.sublist h2,fun z hz=> ?_,h3⟩
   obtain ⟨a1,a2,a3,a4,a5⟩:=b2 z (h2.subset hz)
   exact ⟨a1,a2,a3,h4 z hz,a5⟩
  ·rw [zko e] at h ⊢
   obtain ⟨b1,b2,b3⟩:=g.que j hj k q h
   refine ⟨b1,fun z hz=> ?_,b3⟩
   obtain ⟨a1,a2,a3,a4,a5⟩:=b2 z hz
   refine ⟨a1,a2,a3,fun h=> ?_,a5⟩
   rcases hx' _ h with h | ⟨_,_,h⟩
   ·exact a4 h
   ·omega
 lan r hr j l h:=by
  obtain ⟨b1,b2,b3⟩:=g.lan r hr j l h
  refine ⟨b1,b2,fun w hw=> ?_⟩
  obtain ⟨a1,a2,a3,a4,a5⟩:=b3 w hw
  refine ⟨a1,a2,a3,fun h=> ?_,a5⟩
  rcases hx' _ h with h | ⟨h6,h7,_⟩
  ·exact a4 h
  ·rcases a5 with h8 | ⟨h8,_⟩
   ·exact h6 h8
   ·omega
 in3 q hq hn h3:=by
  obtain ⟨k,l,e1,e2⟩:=g.in3 q hq (fun h=>hn (hx q h)) h3
  by_cases e:pOf c q=i
  ·rw [e] at e1 ⊢
   rw [zji]
   obtain ⟨l',e3,e4⟩:=hlost k l e1
   refine ⟨k,l',e3,?_⟩
   rcases e4 _ e2 with h | h | h
   ·exact h
   ·exact absurd (by simpa using h) hn
   ·exact absurd h3 (hz q (by simpa using h))
  ·rw [zko e]
   exact ⟨k,l,e1,e2⟩
 in2 q hq hn h2:=g.in2 q hq (fun h=>hn (hx q h)) h2
theorem Good.queue (g:Good c fl s No No T) {k:Nat} {n:PIns} {o:Int} {q:List Int} (hp:p<nQ c) (hi:pOf c p<nP c) (h0:(s.proc p).state=0) (hn:insX c p (s.proc p)=some n) (ho:n.op=29) (hk:n.imm=(k:Int)) (hown:(s.part (pOf c p)).owners[k]?=some o) (ho1:o≠ -1) (ho2:o≠(p:Int))
  (hq:(s.part (pOf c p)).queues[k]?=some q):Good c fl ((s.setI (pOf c p) {s.part (pOf c p) with queues:=(s.part (pOf c p)).queues.modify k (· ++ [(p:Int)])}).setP p {s.proc p with state:=3}) No No T:=by
 have oo:Out s No No p:=zhm ⟨by omega,by omega⟩
 have hst:∀r,r≠p->((s.setI (pOf c p) {s.part (pOf c p) with queues:=(s.part (pOf c p)).queues.modify k (· ++ [(p:Int)])}).setP p {s.proc p with state:=3}).proc r=s.proc r:=fun r e=>zas e
 have hsp:((s.setI (pOf c p) {s.part (pOf c p) with queues:=(s.part (pOf c p)).queues.modify k (· ++ [(p:Int)])}).setP p {s.proc p with state:=3}).proc p={s.proc p with state:=3}:=zaj
 have hpart:∀j,((s.setI (pOf c p) {s.part (pOf c p) with queues:=(s.part (pOf c p)).queues.modify k (· ++ [(p:Int)])}).setP p {s.proc p with state:=3}).part j=(s.setI (pOf c p) {s.part (pOf c p) with queues:=(s.part (pOf c p)).queues.modify k (· ++ [(p:Int)])}).part j:=fun j=>rfl
 have hliv:∀r,zbv (s.proc r)=true->zbv (((s.setI (pOf c p) {s.part (pOf c p) with queues:=(s.part (pOf c p)).queues.modify k (· ++ [(p:Int)])}).setP p {s.proc p with state:=3}).proc r)=true:=fun r h=>by
  by_cases e:r=p
  ·subst e;rw [hsp];rfl
  ·rw [hst r e];exact h
 generalize hs':(s.setI (pOf c p) {s.part (pOf c p) with queues:=(s.part (pOf c p)).queues.modify k (· ++ [(p:Int)])}).setP p {s.proc p with state:=3}=s' at*
 have htick:s'.tick=s.tick:=by rw [<-hs'];rfl
 have hlan:∀r,(s'.proc r).lanes=(s.proc r).lanes:=fun r=>by
  by_cases e:r=p
  ·subst e;rw [hsp]
  ·rw [hst r e]
 have keepQ:∀ {i k z},QueM c s No No i k z->QueM c s' No No i k z:=fun {i k z} h=>h.keep (fun h=>h) (hst _ (h.out oo))
 refine ⟨by rw [htick];exact g.tick,fun j hj=> ?_,fun r hr=> ?_,fun j hj kk ow h=> ?_,fun j hj kk l h=> ?_,fun r hr j l h=> ?_,fun r hr _ h3=> ?_,fun r hr _ h2=> ?_⟩
 ·rw [hpart]
  by_cases e:j=pOf c p
  ·subst e;rw [zji]
   have pm:=g.part _ hj
   exact ⟨pm.cur,pm.logl,pm.log,pm.lost,pm.forb,pm.full,pm.ownl,by show ((List.modify _ _ _).length:Int)=_;rw [List.length_modify];exact pm.quel⟩
  ·rw [zko e];exact g.part j hj
 ·rw [htick]
  by_cases e:r=p
  ·subst e;rw [hsp]
   exact (g.proc r hr).wait h0 (.inr rfl) hn ⟨fun h=>by omega,fun _=>ho⟩
  ·rw [hst r e];exact g.proc r hr
 ·rw [hpart] at h
  have h:(s.part j).owners[kk]?=some ow:=by
   by_cases e:j=pOf c p
   ·subst e;rw [zji] at h;exact h
   ·rw [zko e] at h;exact h
  rcases g.own j hj kk ow h with h | ⟨h1,h2,h3,h4⟩
  ·exact .inl h
  ·exact .inr ⟨h1,h2,h3,h4.imp (hliv _) id⟩
 ·rw [hpart] at h ⊢
  by_cases e:j=pOf c p
  ·subst e
   rw [zji] at h ⊢
   obtain ⟨b,e1,e2⟩:=zfr1 h
   obtain ⟨b1,b2,b3⟩:=g.que _ hj kk b e1
   rcases e2 with ⟨e2,rfl⟩ | ⟨e2,rfl⟩
   ·subst e2
    rw [hq] at e1
    cases e1
    have hpq:(p:Int)∉q:=fun hm=>((b2 _ hm).out oo) (by omega)
    refine ⟨?_,fun z hz=> ?_,fun _=>⟨o,hown,ho1,?_⟩⟩
    ·rw [List.nodup_append]
     exact ⟨b1,by simp,fun a ha b hb=>by rw [List.mem_singleton.1 hb];exact fun e=>hpq (e▸ha)⟩
    ·rcases List.mem_append.1 hz with hz | hz
     ·exact keepQ (b2 z hz)
     ·rw [List.mem_singleton.1 hz]
      refine ⟨by omega,hp,rfl,fun h=>h,.inr ?_⟩
      rw [Int.toNat_natCast,hsp]
      exact ⟨rfl,n,hn,ho,hk⟩
    ·intro hm
     rcases List.mem_append.1 hm with hm | hm
     ·obtain ⟨o',e5,_,e6⟩:=b3 (List.ne_nil_of_mem hm)
      rw [hown] at e5
      cases e5
      exact e6 hm
     ·exact ho2 (List.mem_singleton.1 hm)
   ·exact ⟨b1,fun z hz=>keepQ (b2 z hz),b3⟩
  ·rw [zko e] at h ⊢
   obtain ⟨b1,b2,b3⟩:=g.que j hj kk l h
   exact ⟨b1,fun z hz=>keepQ (b2 z hz),b3⟩
 ·rw [hlan] at h
  obtain ⟨b1,b2,b3⟩:=g.lan r hr j l h
  refine ⟨b1,fun hw=> ?_,fun w hw=>(b3 w hw).keep (fun h=>h) (hst _ ((b3 w hw).out oo))⟩
  obtain ⟨a1,a2,a3⟩:=b2 hw
  exact ⟨a1,a2.imp (hliv _) id,a3⟩
 ·by_cases e:r=p
  ·subst e
   rw [hpart,zji]
   exact ⟨k,_,zrq hq,List.mem_append_right _ (List.mem_singleton.2 rfl)⟩
  ·rw [hst r e] at h3
   obtain ⟨kk,l,e1,e2⟩:=g.in3 r hr (fun h=>h) h3
   rw [hpart]
   by_cases ei:pOf c r=pOf c p
   ·rw [ei] at e1 ⊢
    rw [zji]
    by_cases ek:k=kk
    ·subst ek
     exact ⟨k,_,zrq e1,List.mem_append_left _ e2⟩
    ·exact ⟨kk,l,(zcv1 ek).trans e1,e2⟩
   ·rw [zko ei]
    exact ⟨kk,l,e1,e2⟩
 ·by_cases e:r=p
  ·subst e;rw [hsp] at h2;have h2:(3:Int)=2:=h2;omega
  ·rw [hst r e] at h2
   obtain ⟨r',hr',l,hl,hw⟩:=g.in2 r hr (fun h=>h) h2
   exact ⟨r',hr',l,by rw [hlan];exact hl,hw⟩
theorem Good.lock (m:CfgM c) (g:Good c fl s No No T) {k:Int} {n:PIns} (hp:p<nQ c) (h0:(s.proc p).state=0) (hn:insX c p (s.proc p)=some n) (ho:n.op=29) (hk:n.imm=k):Good c fl (lockS c s p k) No No T:=by
 have hi:=m.pOf_lt (p:=p)
 have hw:=zus (m.ins hn).1 (.inl ho)
 rw [hk] at hw
 have pm:=g.part _ hi
 have hol:=pm.ownl
 have hql:=pm.quel
 have hqn:=List.getElem?_eq_getElem (show k.toNat<(s.part (pOf c p)).queues.length by omega)
 have hon:=List.getElem?_eq_getElem (show k.toNat<(s.part (pOf c p)).owners.length by omega)
 generalize (s.part (pOf c p)).queues[k.toNat]=q at hqn
 generalize (s.part (pOf c p)).owners[k.toNat]=o at hon
 have hlt:=zua hn
 have hpm:=g.proc p hp
 unfold lockS
 dsimp only
 have e0:(s.part (pOf c p)).owners.getD k.toNat 0=o:=by simp [List.getD,hon]
 rw [e0]
 by_cases h:o= -1\/o=(p:Int)
 ·rw [if_pos h]
  unfold lockS.goK
  have oo:Out s No No p:=zhm ⟨by omega,by omega⟩
  have g1:Good c fl (s.setI (pOf c p) {s.part (pOf c p) with owners:=(s.part (pOf c p)).owners.set k.toNat p}) No No T:=by
   refine g.locks ⟨pm.cur,pm.logl,pm.log,pm.lost,pm.forb,pm.full,by show ((List.set _ _ _).length:Int)=_;rw [List.length_set];exact pm.ownl,pm.quel⟩ (fun j o' hj=> ?_) (fun j q' hj=>⟨q',hj,List.Sublist.refl _,fun hne=> ?_,fun _ _ h=>h⟩) (fun j q' hj=>⟨q',hj,fun z hz=>.inl hz⟩) (fun _ h=>h.elim) (fun _ h=>h) fun _ h=>h.elim
   ·have hj:((s.part (pOf c p)).owners.set k.toNat p)[j]?=some o':=hj
    by_cases e:k.toNat=j
    ·subst e
     rw [List.getElem?_set_self (by omega)] at hj
     cases hj
     refine .inr ⟨by omega,hp,rfl,.inl ?_⟩
     rw [Int.toNat_natCast,livesB_iff]
     omega
    ·rw [List.getElem?_set_ne e] at hj
     exact g.own _ hi j o' hj
   ·obtain ⟨b1,b2,b3⟩:=g.que _ hi j q' hj
    obtain ⟨o',e5,e6,e7⟩:=b3 hne
    show ∃o,((s.part (pOf c p)).owners.set k.toNat p)[j]?=some o/\o≠ -1/\o∉q'
    by_cases e:k.toNat=j
    ·subst e
     rw [List.getElem?_set_self (by omega)]
     exact ⟨p,rfl,by omega,fun hm=>((b2 _ hm).out oo) (by omega)⟩
    ·rw [List.getElem?_set_ne e]
     exact ⟨o',e5,e6,e7⟩
  have oo1:Out (s.setI (pOf c p) {s.part (pOf c p) with owners:=(s.part (pOf c p)).owners.set k.toNat p}) No No p:=zhm ⟨by show (s.proc p).state≠2;omega,by show (s.proc p).state≠3;omega⟩
  exact zkt (g1.core (y:=s.proc p) (k:=nextC (s.proc p).core) oo1 (g1.proc p hp) rfl h0 ⟨by show 0<=(s.proc p).pc+1;omega,by show (s.proc p).pc+1<=_;omega⟩ hpm.regs)
 ·rw [if_neg h]
  exact g.queue hp hi h0 hn ho (by omega) hon (fun e=>h (.inl e)) (fun e=>h (.inr e)) hqn
theorem Good.given (g:Good c fl s X Z T) {a:Int} (ha:0<=a) (hq:a.toNat<nQ c) (hx:X a.toNat) (hz:¬Z a.toNat) (h3:(s.proc a.toNat).state≠4) (hi:∃n,insX c a.toNat (s.proc a.toNat)=some n):Good c fl (zca s a) (fun q=>X q/\q≠a.toNat) Z T:=by
 unfold zca
 rw [if_pos ha]
 exact g.goes hq ⟨hz,.inl hx⟩ h3 hi
theorem Good.unlock (m:CfgM c) (g:Good c fl s No No T) {k:Int} (hp:p<nQ c) (hk:0<=k/\k<c.locks):Good c fl (zqi c s p k) No No T:=by
 have hi:=m.pOf_lt (p:=p)
 have pm:=g.part _ hi
 have hol:=pm.ownl
 have hql:=pm.quel
 have hqn:=List.getElem?_eq_getElem (show k.toNat<(s.part (pOf c p)).queues.length by omega)
 have hon:=List.getElem?_eq_getElem (show k.toNat<(s.part (pOf c p)).owners.length by omega)
 generalize (s.part (pOf c p)).queues[k.toNat]=q at hqn
 generalize (s.part (pOf c p)).owners[k.toNat]=o at hon
 unfold zqi
 dsimp only
 have e0:(s.part (pOf c p)).owners.getD k.toNat (-1)=o:=by simp [List.getD,hon]
 have e1:(s.part (pOf c p)).queues.getD k.toNat []=q:=by simp [List.getD,hqn]
 rw [e0,e1]
 by_cases h:o=(p:Int)
 ·rw [if_pos h]
  obtain ⟨b1,b2,b3⟩:=g.que _ hi _ _ hqn
  cases q with
  | nil=>
   dsimp only
   refine g.locks ⟨pm.cur,pm.logl,pm.log,pm.lost,pm.forb,pm.full,by show ((List.set _ _ _).length:Int)=_;rw [List.length_set];exact pm.ownl,pm.quel⟩ (fun j o' hj=> ?_) (fun j q' hj=>⟨q',hj,List.Sublist.refl _,fun hne=> ?_,fun _ _ h=>h⟩) (fun j q' hj=>⟨q',hj,fun z hz=>.inl hz⟩) (fun _ h=>h.elim) (fun _ h=>h) fun _ h=>h.elim
   ·have hj:((s.part (pOf c p)).owners.set k.toNat (-1))[j]?=some o':=hj
    by_cases e:k.toNat=j
    ·subst e
     rw [List.getElem?_set_self (by omega)] at hj
     cases hj
     exact .inl rfl
    ·rw [List.getElem?_set_ne e] at hj
     exact g.own _ hi j o' hj
   ·have hj:(s.part (pOf c p)).queues[j]?=some q':=hj
    obtain ⟨d1,d2,d3⟩:=g.que _ hi j q' hj
    have e:¬k.toNat=j:=fun e=>by
     subst e
     rw [hqn] at hj
     cases hj
     exact hne rfl
    show ∃o,((s.part (pOf c p)).owners.set k.toNat (-1))[j]?=some o/\o≠ -1/\o∉q'
    rw [List.getElem?_set_ne e]
    exact d3 hne
  | cons a r=>
   dsimp only
   obtain ⟨a1,a2,a3,a4,a5⟩:=b2 a (List.mem_cons_self ..)
   rcases a5 with a5 | ⟨a5,n,a6,a7,a8⟩
   ·exact a5.elim
   have hnd:=List.nodup_cons.1 b1
   have g1:Good c fl (s.setI (pOf c p) {s.part (pOf c p) with owners:=(s.part (pOf c p)).owners.set k.toNat a,queues:=(s.part (pOf c p)).queues.set k.toNat r}) (fun q=>q=a.toNat) No T:=by
    refine g.locks ⟨pm.cur,pm.logl,pm.log,pm.lost,pm.forb,pm.full,by show ((List.set _ _ _).length:Int)=_;rw [List.length_set];exact pm.ownl,by show ((List.set _ _ _).length:Int)=_;rw [List.length_set];exact pm.quel⟩ (fun j o' hj=> ?_) (fun j q' hj=> ?_) (fun j q' hj=> ?_) (fun _ h=>h.elim) (fun _ h=>h.elim) fun q' h=>.inr ⟨fun h=>h,by rw [h];exact a5,by rw [h];exact a3⟩
    ·have hj:((s.part (pOf c p)).owners.set k.toNat a)[j]?=some o':=hj
     by_cases e:k.toNat=j
     ·subst e
      rw [List.getElem?_set_self (by omega)] at hj
      cases hj
      refine .inr ⟨a1,a2,a3,.inl ?_⟩
      rw [livesB_iff]
      omega
     ·rw [List.getElem?_set_ne e] at hj
      exact g.own _ hi j o' hj
    ·have hj:((s.part (pOf c p)).queues.set k.toNat r)[j]?=some q':=hj
     show ∃q,(s.part (pOf c p)).queues[j]?=some q/\q'.Sublist q/\(q'≠ []->∃o,((s.part (pOf c p)).owners.set k.toNat a)[j]?=some o/\o≠ -1/\o∉q')/\_
     by_cases e:k.toNat=j
     ·subst e
      rw [List.getElem?_set_self (by omega)] at hj
      cases hj
      refine ⟨a::r,hqn,List.sublist_cons_self ..,fun _=>⟨a,List.getElem?_set_self (by omega),by omega,hnd.1⟩,fun z hz h=> ?_⟩
      have hz0:=(b2 z (List.mem_cons_of_mem _ hz)).1
      have:z=a:=by omega
      exact hnd.1 (this▸hz)
     ·rw [List.getElem?_set_ne e] at hj
      obtain ⟨d1,d2,d3⟩:=g.que _ hi j q' hj
      refine ⟨q',hj,List.Sublist.refl _,fun hne=>by rw [List.getElem?_set_ne e];exact d3 hne,fun z hz h=> ?_⟩
      obtain ⟨z1,z2,z3,z4,z5⟩:=d2 z hz
      rcases z5 with z5 | ⟨z5,n',z6,z7,z8⟩
      ·exact z5
      ·rw [h,a6] at z6
       cases z6
       omega
    ·have hj:(s.part (pOf c p)).queues[j]?=some q':=hj
     show ∃q'',((s.part (pOf c p)).queues.set k.toNat r)[j]?=some q''/\_
     by_cases e:k.toNat=j
     ·subst e
      rw [hqn] at hj
      cases hj
      refine ⟨r,List.getElem?_set_self (by omega),fun z hz=> ?_⟩
      rcases List.mem_cons.1 hz with rfl | hz
      ·exact .inr (.inl rfl)
      ·exact .inl hz
     ·exact ⟨q',by rw [List.getElem?_set_ne e];exact hj,fun z hz=>.inl hz⟩
   have g2:=g1.given a1 a2 rfl (fun h=>h) (by show (s.proc a.toNat).state≠4;omega) ⟨n,a6⟩
   exact g2.congr fun q=>⟨fun h=>(h.2 h.1).elim,fun h=>h.elim⟩
 ·rw [if_neg h];exact g
end
theorem zoq {α:Type} {f:α->Bool}:∀ {l:List α} {a:α},a∈l->f a=false->a∈zag f l
 | b::l,a,h,hf=>by
  unfold zag
  split
  ·rename_i hb
   rcases List.mem_cons.1 h with rfl | h
   ·rw [hf] at hb;cases hb
   ·exact h
  ·rcases List.mem_cons.1 h with rfl | h
   ·exact List.mem_cons_self ..
   ·exact List.mem_cons_of_mem _ (zoq h hf)
theorem dropFirst_sub {α:Type} {f:α->Bool}:∀ {l:List α},(zag f l).Sublist l
 | []=>List.Sublist.refl _
 | b::l=>by
  unfold zag
  split
  ·exact List.sublist_cons_self ..
  ·exact dropFirst_sub.cons_cons _
theorem zmc {α β:Type} [DecidableEq β] {g:α->β} {b:β}:∀ {l:List α},(l.map g).Nodup->∀a∈zag (fun x=>decide (g x=b)) l,g a≠b
 | [],_,a,h=>by cases h
 | x::l,nd,a,h=>by
  rw [List.map_cons,List.nodup_cons] at nd
  unfold zag at h
  split at h
  ·rename_i hx
   have hx:=of_decide_eq_true hx
   intro e
   exact nd.1 (List.mem_map.2 ⟨a,h,e.trans hx.symm⟩)
  ·rename_i hx
   rcases List.mem_cons.1 h with rfl | h
   ·exact fun e=>hx (decide_eq_true e)
   ·exact zmc nd.2 a h
section
variable {c:PCfg} {fl:Nat->Nat->Bool} {s:MS} {T:Int} {p:Nat} {t:Int} {x:PProcess} {z:Prop} {X Z:Nat->Prop}
theorem Good.dying (g:Good c fl s No No T) {st:Int} (hst:st=5\/st=6) (hp:p<nQ c):Good c fl (s.setP p {s.proc p with state:=st,fired:=false}) No (fun q=>q=p) T:=by
 have hpc:∀r,insX c r ((s.setP p {s.proc p with state:=st,fired:=false}).proc r)=insX c r (s.proc r):=fun r=>ztj1 rfl
 have hne:∀r,r≠p->(s.setP p {s.proc p with state:=st,fired:=false}).proc r=s.proc r:=fun r e=>zas e
 have hat:(s.setP p {s.proc p with state:=st,fired:=false}).proc p={s.proc p with state:=st,fired:=false}:=zaj
 have hlan:∀r,((s.setP p {s.proc p with state:=st,fired:=false}).proc r).lanes=(s.proc r).lanes:=fun r=>by
  by_cases e:r=p
  ·subst e;rw [hat]
  ·rw [hne r e]
 refine ⟨g.tick,g.part,fun r hr=> ?_,fun i hi k o h=> ?_,fun i hi k q h=> ?_,fun r hr i l h=> ?_,fun r hr _ h=> ?_,fun r hr _ h=> ?_⟩
 ·by_cases e:r=p
  ·subst e
   rw [hat]
   have pm:=g.proc r hr
   exact ⟨by show 0<=st/\st<=6;omega,pm.pc,pm.lnl,pm.cur,pm.tim,pm.wak,.inl rfl,fun _=>⟨.inl rfl,rfl⟩,pm.lan,fun h=>by have h:st=1:=h;omega,fun h=>by have h:st=2:=h;omega,fun h=>by have h:st=3:=h;omega,fun h=>by have h:st=4:=h;omega,pm.regs⟩
  ·rw [hne r e]
   have pm:=g.proc r hr
   exact ⟨pm.st,pm.pc,pm.lnl,pm.cur,pm.tim,pm.wak,.inr (pm.slp.resolve_left (fun h=>h)),fun h=>⟨.inr ((pm.dead h).1.resolve_left (fun h=>h)),(pm.dead h).2⟩,pm.lan,pm.recv,pm.snd,pm.lck,pm.slpi,pm.regs⟩
 ·rcases g.own i hi k o h with h | ⟨h1,h2,h3,h4⟩
  ·exact .inl h
  ·refine .inr ⟨h1,h2,h3,?_⟩
   by_cases e:o.toNat=p
   ·exact .inr e
   ·rw [hne _ e];exact .inl (h4.resolve_right (fun h=>h))
 ·obtain ⟨b1,b2,b3⟩:=g.que i hi k q h
  refine ⟨b1,fun z hz=> ?_,b3⟩
  obtain ⟨a1,a2,a3,a4,a5⟩:=b2 z hz
  refine ⟨a1,a2,a3,a4,?_⟩
  by_cases e:z.toNat=p
  ·exact .inl e
  ·rw [hne _ e];exact .inr (a5.resolve_left (fun h=>h))
 ·rw [hlan] at h
  obtain ⟨b1,b2,b3⟩:=g.lan r hr i l h
  refine ⟨b1,fun hw=> ?_,fun w hw=> ?_⟩
  ·obtain ⟨a1,a2,a3⟩:=b2 hw
   refine ⟨a1,?_,a3⟩
   by_cases e:r=p
   ·exact .inr e
   ·rw [hne _ e];exact .inl (a2.resolve_right (fun h=>h))
  ·obtain ⟨a1,a2,a3,a4,a5⟩:=b3 w hw
   refine ⟨a1,a2,a3,a4,?_⟩
   by_cases e:w.proc.toNat=p
   ·exact .inl e
   ·rw [hne _ e];exact .inr (a5.resolve_left (fun h=>h))
 ·by_cases e:r=p
  ·subst e;rw [hat] at h;have h:st=3:=h;omega
  ·rw [hne _ e] at h;exact g.in3 r hr (fun h=>h) h
 ·by_cases e:r=p
  ·subst e;rw [hat] at h;have h:st=2:=h;omega
  ·rw [hne _ e] at h
   obtain ⟨r',h1,l,h2,h3⟩:=g.in2 r hr (fun h=>h) h
   exact ⟨r',h1,l,by rw [hlan];exact h2,h3⟩
theorem zfu1 {p:Int} {x:PProcess} {i:Nat} {l:PLane} (h:(zkw p x).lanes[i]?=some l):∃l0,x.lanes[i]?=some l0/\l.values=l0.values/\l.taken=l0.taken/\l.dropped=l0.dropped/\l.waiters=zag (fun w=>decide (w.proc=p)) l0.waiters:=by
 have h:(x.lanes.map _)[i]?=some l:=h
 rw [List.getElem?_map] at h
 cases e:x.lanes[i]? with
 | none=>rw [e] at h;cases h
 | some l0=>
  rw [e] at h
  cases h
  exact ⟨l0,rfl,rfl,rfl,rfl,rfl⟩
theorem ProcM.leave (pm:ProcM c fl t p z x) {q:Int}:ProcM c fl t p z (zkw q x) where
 st:=pm.st
 pc:=pm.pc
 lnl:=by show (List.map _ _).length=_;rw [List.length_map];exact pm.lnl
 cur:=by show 0<=x.cursor/\x.cursor<((List.map _ _).length:Int);rw [List.length_map];exact pm.cur
 tim:=pm.tim
 wak:=pm.wak
 slp:=pm.slp
 dead:=pm.dead
 lan:=fun i l h=>by
  obtain ⟨l0,e,e1,e2,e3,_⟩:=zfu1 h
  have:=pm.lan i l0 e
  unfold Used at this ⊢
  rw [e1,e2,e3]
  exact this
 recv:=fun h=>by
  obtain ⟨h1,h2,h3⟩:=pm.recv h
  refine ⟨h1,fun l hl=> ?_,h3⟩
  obtain ⟨l0,h4,rfl⟩:=List.mem_map.1 hl
  exact h2 l0 h4
 snd:=pm.snd
 lck:=pm.lck
 slpi:=pm.slpi
 regs:=pm.regs
theorem Good.leave (g:Good c fl s X (fun q=>q=p) T) (hps:(s.proc p).state≠2/\(s.proc p).state≠3) {L:List Nat} (hL:∀q,q∈L↔q<nQ c/\pOf c q=pOf c p):Good c fl (zeh p s L) X (fun q=>q=p) T/\∀r,r<nQ c->∀l∈((zeh p s L).proc r).lanes,∀w∈l.waiters,w.proc≠(p:Int):=by
 have hpr:∀r,(zeh p s L).proc r=zkw p (s.proc r)\/(zeh p s L).proc r=s.proc r:=fun r=>by
  by_cases h:r∈L
  ·exact .inl (if_pos h)
  ·exact .inr (if_neg h)
 have hstate:∀r,((zeh p s L).proc r).state=(s.proc r).state/\((zeh p s L).proc r).pc=(s.proc r).pc/\((zeh p s L).proc r).regs=(s.proc r).regs:=fun r=>by
  rcases hpr r with h | h<;>rw [h]<;>exact ⟨rfl,rfl,rfl⟩
 have hins:∀r,insX c r ((zeh p s L).proc r)=insX c r (s.proc r):=fun r=>by unfold insX;rw [(hstate r).2.1]
 have hliv:∀r,zbv ((zeh p s L).proc r)=zbv (s.proc r):=fun r=>by unfold zbv;rw [(hstate r).1]
 have hlane:∀(r i:Nat) (l:PLane),((zeh p s L).proc r).lanes[i]?=some l->∃l0:PLane,(s.proc r).lanes[i]?=some l0/\l.values=l0.values/\l.waiters.Sublist l0.waiters/\(r∈L->∀w∈zag (fun w=>decide (w.proc=(p:Int))) l0.waiters,w∈l.waiters)/\(r∈L->l.waiters=zag (fun w=>decide (w.proc=(p:Int))) l0.waiters)/\(r∉L->l=l0):=fun r i l h=>by
  by_cases hr:r∈L
  ·have e:(zeh p s L).proc r=zkw p (s.proc r):=if_pos hr
   rw [e] at h
   obtain ⟨l0,e0,e1,_,_,e4⟩:=zfu1 h
   exact ⟨l0,e0,e1,by rw [e4];exact dropFirst_sub,fun _ w hw=>by rw [e4];exact hw,fun _=>e4,fun hn=>absurd hr hn⟩
  ·have e:(zeh p s L).proc r=s.proc r:=if_neg hr
   rw [e] at h
   exact ⟨l,h,rfl,List.Sublist.refl _,fun hn=>absurd hn hr,fun hn=>absurd hn hr,fun _=>rfl⟩
 refine ⟨⟨g.tick,g.part,fun r hr=> ?_,fun i hi k o h=> ?_,fun i hi k q h=> ?_,fun r hr i l h=> ?_,fun r hr hx h=> ?_,fun r hr hx h=> ?_⟩,fun r hr l hl w hw he=> ?_⟩
 ·rcases hpr r with h | h
  ·rw [h];exact (g.proc r hr).leave
  ·rw [h];exact g.proc r hr
 ·rcases g.own i hi k o h with h | ⟨h1,h2,h3,h4⟩
  ·exact .inl h
  ·exact .inr ⟨h1,h2,h3,by rw [hliv];exact h4⟩
 ·obtain ⟨b1,b2,b3⟩:=g.que i hi k q h
  refine ⟨b1,fun z hz=> ?_,b3⟩
  obtain ⟨a1,a2,a3,a4,a5⟩:=b2 z hz
  exact ⟨a1,a2,a3,a4,by rw [(hstate _).1,hins];exact a5⟩
 ·obtain ⟨l0,e0,e1,e2,_⟩:=hlane r i l h
  obtain ⟨b1,b2,b3⟩:=g.lan r hr i l0 e0
  refine ⟨b1.sublist (e2.map _),fun hw=> ?_,fun w hw=> ?_⟩
  ·obtain ⟨a1,a2,a3⟩:=b2 (fun h=>hw (List.eq_nil_of_sublist_nil (h▸e2)))
   exact ⟨a1,by rw [hliv];exact a2,by rw [e1];exact a3⟩
  ·obtain ⟨a1,a2,a3,a4,a5⟩:=b3 w (e2.subset hw)
   refine ⟨a1,a2,a3,a4,?_⟩
   rw [(hstate _).1,hins,(hstate _).2.2]
   exact a5
 ·rw [(hstate r).1] at h
  exact g.in3 r hr hx h
 ·rw [(hstate r).1] at h
  obtain ⟨r',h1,l,h2,w,h3,h4⟩:=g.in2 r hr hx h
  have hrp:r≠p:=fun e=>by subst e;exact hps.1 h
  by_cases hr':r'∈L
  ·have e:(zeh p s L).proc r'=zkw p (s.proc r'):=if_pos hr'
   refine ⟨r',h1,{l with waiters:=zag (fun w=>decide (w.proc=(p:Int))) l.waiters},?_,w,?_,h4⟩
   ·rw [e]
    show (List.map _ _)[_]?=_
    rw [List.getElem?_map,h2]
    rfl
   ·exact zoq h3 (decide_eq_false (by rw [h4];omega))
  ·have e:(zeh p s L).proc r'=s.proc r':=if_neg hr'
   exact ⟨r',h1,l,by rw [e];exact h2,w,h3,h4⟩
 ·obtain ⟨i,hi,he2⟩:=List.getElem_of_mem hl
  have hget:((zeh p s L).proc r).lanes[i]?=some l:=by rw [List.getElem?_eq_getElem hi,he2]
  obtain ⟨l0,e0,e1,e2,e3,e4,e5⟩:=hlane r i l hget
  obtain ⟨b1,b2,b3⟩:=g.lan r hr i l0 e0
  have hw0:=e2.subset hw
  have ha:=b3 w hw0
  have hb:=b2 (List.ne_nil_of_mem hw0)
  have hin:r∈L:=(hL r).2 ⟨hr,by
   have h1:=ha.2.2.1
   rw [he,Int.toNat_natCast] at h1
   rw [h1,hb.1]⟩
  rw [e4 hin] at hw
  exact zmc b1 w hw he
end
theorem zfv1 {p:Int}:∀ {os:List Int} {qs:List (List Int)},os.length=qs.length->
  (zbq p os qs).1.length=os.length/\(zbq p os qs).2.1.length=qs.length/\
  (∀(k:Nat) o q,os[k]?=some o->qs[k]?=some q->(o≠p/\(zbq p os qs).1[k]?=some o/\(zbq p os qs).2.1[k]?=some q)\/(o=p/\q=[]/\(zbq p os qs).1[k]?=some (-1)/\(zbq p os qs).2.1[k]?=some [])\/
   (o=p/\∃a r,q=a::r/\(zbq p os qs).1[k]?=some a/\(zbq p os qs).2.1[k]?=some r/\a∈(zbq p os qs).2.2))/\
  (∀a∈(zbq p os qs).2.2,a= -1\/∃(k:Nat) (r:List Int),os[k]?=some p/\qs[k]?=some (a::r))/\
  ((∀(j k:Nat) (z:Int) (a b:List Int),qs[j]?=some a->qs[k]?=some b->z∈a->z∈b->j=k)->(zbq p os qs).2.2.Pairwise fun a b=>a≠b\/a= -1)
 | [],[],_=>by simp [zbq]
 | [],_::_,h=>by simp at h
 | _::_,[],h=>by simp at h
 | o::os,q::qs,h=>by
  obtain ⟨h1,h2,h3,h4,h5⟩:=zfv1 (p:=p) (os:=os) (qs:=qs) (by simpa using h)
  have hsh:(∀(j k:Nat) (z:Int) (a b:List Int),(q::qs)[j]?=some a->(q::qs)[k]?=some b->z∈a->z∈b->j=k)->∀(j k:Nat) (z:Int) (a b:List Int),qs[j]?=some a->qs[k]?=some b->z∈a->z∈b->j=k:=fun hd j k z a b ha hb hza hzb=>by
   have:=hd (j+1) (k+1) z a b (by simpa using ha) (by simpa using hb) hza hzb
   omega
  have h4':∀a∈(zbq p os qs).2.2,a= -1\/∃(k:Nat) (r:List Int),(o::os)[k]?=some p/\(q::qs)[k]?=some (a::r):=fun a ha=>(h4 a ha).imp id fun ⟨k,r,e1,e2⟩=>⟨k+1,r,by simpa using e1,by simpa using e2⟩
  unfold zbq
  dsimp only
  by_cases e:o=p
  ·rw [if_pos e]
   cases q with
   | nil=>
    dsimp only
    refine ⟨by simp [h1],by simp [h2],fun k o' q' ho hq=> ?_,fun a ha=> ?_,fun hd=> ?_⟩
    ·cases k with
     | zero=>
      simp at ho hq
      subst ho;subst hq
      exact .inr (.inl ⟨e,rfl,by simp,by simp⟩)
     | succ k=>
      rcases h3 k o' q' (by simpa using ho) (by simpa using hq) with ⟨a,b,c⟩ | ⟨a,b,c,d⟩ | ⟨a,x,r,b,c,d,f⟩
      ·exact .inl ⟨a,by simpa using b,by simpa using c⟩
      ·exact .inr (.inl ⟨a,b,by simpa using c,by simpa using d⟩)
      ·exact .inr (.inr ⟨a,x,r,b,by simpa using c,by simpa using d,List.mem_cons_of_mem _ f⟩)
    ·rcases List.mem_cons.1 ha with rfl | ha
     ·exact .inl rfl
     ·exact h4' a ha
    ·exact List.pairwise_cons.2 ⟨fun b _=>.inr rfl,h5 (hsh hd)⟩
   | cons x r=>
    dsimp only
    refine ⟨by simp [h1],by simp [h2],fun k o' q' ho hq=> ?_,fun a ha=> ?_,fun hd=> ?_⟩
    ·cases k with
     | zero=>
      simp at ho hq
      subst ho;subst hq
      exact .inr (.inr ⟨e,x,r,rfl,by simp,by simp,List.mem_cons_self ..⟩)
     | succ k=>
      rcases h3 k o' q' (by simpa using ho) (by simpa using hq) with ⟨a,b,c⟩ | ⟨a,b,c,d⟩ | ⟨a,x,r,b,c,d,f⟩
      ·exact .inl ⟨a,by simpa using b,by simpa using c⟩
      ·exact .inr (.inl ⟨a,b,by simpa using c,by simpa using d⟩)
      ·exact .inr (.inr ⟨a,x,r,b,by simpa using c,by simpa using d,List.mem_cons_of_mem _ f⟩)
    ·rcases List.mem_cons.1 ha with rfl | ha
     ·exact .inr ⟨0,r,by simp [e],by simp⟩
     ·exact h4' a ha
    ·refine List.pairwise_cons.2 ⟨fun b hb=> ?_,h5 (hsh hd)⟩
     rcases h4 b hb with rfl | ⟨k,r',e1,e2⟩
     ·by_cases hx:x= -1
      ·exact .inr hx
      ·exact .inl hx
     ·refine .inl fun hxb=> ?_
      subst hxb
      have:=hd 0 (k+1) x (x::r) (x::r') (by simp) (by simpa using e2) (List.mem_cons_self ..) (List.mem_cons_self ..)
      omega
  ·rw [if_neg e]
   refine ⟨by simp [h1],by simp [h2],fun k o' q' ho hq=> ?_,fun a ha=>h4' a ha,fun hd=>h5 (hsh hd)⟩
   cases k with
   | zero=>
    simp at ho hq
    subst ho;subst hq
    exact .inl ⟨e,by simp,by simp⟩
   | succ k=>
    rcases h3 k o' q' (by simpa using ho) (by simpa using hq) with ⟨a,b,c⟩ | ⟨a,b,c,d⟩ | ⟨a,x,r,b,c,d,f⟩
    ·exact .inl ⟨a,by simpa using b,by simpa using c⟩
    ·exact .inr (.inl ⟨a,b,by simpa using c,by simpa using d⟩)
    ·exact .inr (.inr ⟨a,x,r,b,by simpa using c,by simpa using d,f⟩)
section
variable {c:PCfg} {fl:Nat->Nat->Bool} {s:MS} {T:Int} {p:Nat} {X Z:Nat->Prop}
theorem Good.givens :∀ {l:List Int} {s:MS},Good c fl s (fun q=>(q:Int)∈l) Z T->(l.Pairwise fun a b=>a≠b\/a= -1)->(∀a∈l,a= -1\/(0<=a/\a.toNat<nQ c/\¬Z a.toNat/\(s.proc a.toNat).state≠4/\∃n,insX c a.toNat (s.proc a.toNat)=some n))->Good c fl (l.foldl zca s) No Z T
 | [],s,g,_,_=>g.congr fun q=>⟨fun h=>(by cases h),fun h=>h.elim⟩
 | a::l,s,g,hp,hf=>by
  obtain ⟨p1,p2⟩:=List.pairwise_cons.1 hp
  rw [List.foldl_cons]
  rcases hf a (List.mem_cons_self ..) with ha | ⟨a1,a2,a3,a4,a5⟩
  ·have e:zca s a=s:=by unfold zca;rw [if_neg (by omega)]
   rw [e]
   refine Good.givens (g.congr fun q=>⟨fun h=> ?_,fun h=>List.mem_cons_of_mem _ h⟩) p2 fun b hb=>hf b (List.mem_cons_of_mem _ hb)
   rcases List.mem_cons.1 h with h | h
   ·omega
   ·exact h
  ·have hna:a∉l:=fun h=>(p1 a h).elim (fun h=>h rfl) (fun h=>by omega)
   have g2:=g.given a1 a2 (by show ((a.toNat:Nat):Int)∈a::l;rw [show ((a.toNat:Nat):Int)=a by omega];exact List.mem_cons_self ..) a3 a4 a5
   refine Good.givens (g2.congr fun q=>⟨fun h=> ?_,fun h=>⟨List.mem_cons_of_mem _ h,fun e=> ?_⟩⟩) p2 fun b hb=> ?_
   ·rcases List.mem_cons.1 h.1 with h3 | h3
    ·exact absurd (by omega) h.2
    ·exact h3
   ·subst e
    rw [show ((a.toNat:Nat):Int)=a by omega] at h
    exact hna h
   ·rcases hf b (List.mem_cons_of_mem _ hb) with h | ⟨b1,b2,b3,b4,b5⟩
    ·exact .inl h
    ·have hne:b.toNat≠a.toNat:=fun e=>hna (by rw [show a=b by omega];exact hb)
     have e:(zca s a).proc b.toNat=s.proc b.toNat:=by
      unfold zca
      rw [if_pos a1]
      exact zas hne
     rw [e]
     exact .inr ⟨b1,b2,b3,b4,b5⟩
theorem Good.tolds {v:Int}:∀ {l:List zcw} {s:MS},Good c fl s (fun q=>(q:Int)∈l.map (·.proc)) No T->(l.map (·.proc)).Nodup->(∀w∈l,0<=w.proc/\w.proc.toNat<nQ c/\(s.proc w.proc.toNat).state≠4/\∃n,insX c w.proc.toNat (s.proc w.proc.toNat)=some n)->Good c fl (l.foldl (fun s w=>toldS c s w.proc.toNat v) s) No No T
 | [],s,g,_,_=>g.congr fun q=>⟨fun h=>(by cases h),fun h=>h.elim⟩
 | a::l,s,g,hp,hf=>by
  rw [List.map_cons,List.nodup_cons] at hp
  rw [List.foldl_cons]
  obtain ⟨a1,a2,a4,a5⟩:=hf a (List.mem_cons_self ..)
  have ea:((a.proc.toNat:Nat):Int)=a.proc:=by omega
  have g2:=g.told (p:=a.proc.toNat) a2 ⟨fun h=>h,.inl (by show ((a.proc.toNat:Nat):Int)∈(a::l).map (·.proc);rw [ea];exact List.mem_cons_self ..)⟩ a4 a5 v
  refine Good.tolds (g2.congr fun q=>⟨fun h=> ?_,fun h=>⟨List.mem_cons_of_mem _ h,fun e=> ?_⟩⟩) hp.2 fun b hb=> ?_
  ·rcases List.mem_cons.1 h.1 with h3 | h3
   ·have h3:(q:Int)=a.proc:=h3
    exact absurd (by omega) h.2
   ·exact h3
  ·subst e
   rw [ea] at h
   exact hp.1 h
  ·obtain ⟨b1,b2,b4,b5⟩:=hf b (List.mem_cons_of_mem _ hb)
   have hne:b.proc.toNat≠a.proc.toNat:=fun e=>hp.1 (List.mem_map.2 ⟨b,hb,by omega⟩)
   have e:(toldS c s a.proc.toNat v).proc b.proc.toNat=s.proc b.proc.toNat:=zas hne
   rw [e]
   exact ⟨b1,b2,b4,b5⟩
theorem Good.endLocks (g:Good c fl s No (fun q=>q=p) T) (hi:pOf c p<nP c) (hps:(s.proc p).state≠3):Good c fl (((zip p (s.part (pOf c p))).2).foldl zca (s.setI (pOf c p) (zip p (s.part (pOf c p))).1)) No (fun q=>q=p) T/\
  (∀i,i<nP c->∀(k:Nat),((s.setI (pOf c p) (zip p (s.part (pOf c p))).1).part i).owners[k]?≠some (p:Int))/\∀i,i<nP c->∀(k:Nat) q,((s.setI (pOf c p) (zip p (s.part (pOf c p))).1).part i).queues[k]?=some q->(p:Int)∉q:=by
 have pm:=g.part _ hi
 have hlen:(s.part (pOf c p)).owners.length=((s.part (pOf c p)).queues.map (zag fun z=>decide (z=(p:Int)))).length:=by
  have:=pm.ownl
  have:=pm.quel
  rw [List.length_map]
  omega
 obtain ⟨L1,L2,H,HG,HP⟩:=zfv1 (p:=(p:Int)) hlen
 have hother:∀ {z:Int} {q:List Int} {k:Nat},(s.part (pOf c p)).queues[k]?=some q->z∈q->z≠(p:Int)->0<=z/\z.toNat<nQ c/\pOf c z.toNat=pOf c p/\z.toNat≠p/\(s.proc z.toNat).state=3/\∃n,insX c z.toNat (s.proc z.toNat)=some n/\n.op=29/\n.imm=(k:Int):=fun {z q k} hq hz hne=>by
  obtain ⟨a1,a2,a3,a4,a5⟩:=(g.que _ hi k q hq).2.1 z hz
  rcases a5 with a5 | a5
  ·exact absurd (by omega) hne
  ·exact ⟨a1,a2,a3,by omega,a5⟩
 have hdrop:∀ {k:Nat} {q:List Int},((s.part (pOf c p)).queues.map (zag fun z=>decide (z=(p:Int))))[k]?=some q->∃q0,(s.part (pOf c p)).queues[k]?=some q0/\q=zag (fun z=>decide (z=(p:Int))) q0:=fun {k q} h=>by
  rw [List.getElem?_map] at h
  cases e:(s.part (pOf c p)).queues[k]? with
  | none=>rw [e] at h;cases h
  | some q0=>rw [e] at h;exact ⟨q0,rfl,(Option.some.inj h).symm⟩
 have hnotp:∀ {k:Nat} {q0:List Int} {z:Int},(s.part (pOf c p)).queues[k]?=some q0->z∈zag (fun z=>decide (z=(p:Int))) q0->z≠(p:Int):=fun {k q0 z} hq hz=>by
  have nd:=(g.que _ hi k q0 hq).1
  exact zmc (g:=fun z=>z) (by simpa using nd) z hz
 have hdist:∀(j k:Nat) (z:Int) (a b:List Int),((s.part (pOf c p)).queues.map (zag fun z=>decide (z=(p:Int))))[j]?=some a->((s.part (pOf c p)).queues.map (zag fun z=>decide (z=(p:Int))))[k]?=some b->z∈a->z∈b->j=k:=by
  intro j k z a b ha hb hza hzb
  obtain ⟨a0,ha0,rfl⟩:=hdrop ha
  obtain ⟨b0,hb0,rfl⟩:=hdrop hb
  have hne:=hnotp ha0 hza
  obtain ⟨_,_,_,_,_,n1,e1,_,e3⟩:=hother ha0 (dropFirst_sub.subset hza) hne
  obtain ⟨_,_,_,_,_,n2,f1,_,f3⟩:=hother hb0 (dropFirst_sub.subset hzb) hne
  rw [e1] at f1
  cases f1
  omega
 have hgiven:∀a∈(zbq (p:Int) (s.part (pOf c p)).owners ((s.part (pOf c p)).queues.map (zag fun z=>decide (z=(p:Int))))).2.2,a= -1\/∃(k:Nat) (q0 r:List Int),(s.part (pOf c p)).owners[k]?=some (p:Int)/\(s.part (pOf c p)).queues[k]?=some q0/\zag (fun z=>decide (z=(p:Int))) q0=a::r:=fun a ha=>by
  rcases HG a ha with h | ⟨k,r,e1,e2⟩
  ·exact .inl h
  ·obtain ⟨q0,e3,e4⟩:=hdrop e2
   exact .inr ⟨k,q0,r,e1,e3,e4.symm⟩
 have HP:=HP hdist
 have hgetO:∀ {k:Nat} {q0:List Int},(s.part (pOf c p)).queues[k]?=some q0->∃o,(s.part (pOf c p)).owners[k]?=some o:=fun {k q0} h=>by
  have h1:=(List.getElem?_eq_some_iff.1 h).1
  rw [List.length_map] at hlen
  exact ⟨_,List.getElem?_eq_getElem (by omega)⟩
 have hgetQ:∀ {k:Nat} {q0:List Int},(s.part (pOf c p)).queues[k]?=some q0->((s.part (pOf c p)).queues.map (zag fun z=>decide (z=(p:Int))))[k]?=some (zag (fun z=>decide (z=(p:Int))) q0):=fun {k q0} h=>by rw [List.getElem?_map,h];rfl
 have eY:zip p (s.part (pOf c p))=({s.part (pOf c p) with owners:=(zbq (p:Int) (s.part (pOf c p)).owners ((s.part (pOf c p)).queues.map (zag fun z=>decide (z=(p:Int))))).1,queues:=(zbq (p:Int) (s.part (pOf c p)).owners ((s.part (pOf c p)).queues.map (zag fun z=>decide (z=(p:Int))))).2.1},(zbq (p:Int) (s.part (pOf c p)).owners ((s.part (pOf c p)).queues.map (zag fun z=>decide (z=(p:Int))))).2.2):=rfl
 rw [eY]
 dsimp only
 generalize zbq (p:Int) (s.part (pOf c p)).owners ((s.part (pOf c p)).queues.map (zag fun z=>decide (z=(p:Int))))=R at*
 have hback:∀(k:Nat) q',R.2.1[k]?=some q'->∃q0 o,(s.part (pOf c p)).queues[k]?=some q0/\(s.part (pOf c p)).owners[k]?=some o/\((o≠(p:Int)/\R.1[k]?=some o/\q'=zag (fun z=>decide (z=(p:Int))) q0)\/(o=(p:Int)/\zag (fun z=>decide (z=(p:Int))) q0=[]/\R.1[k]?=some (-1)/\q'=[])\/(o=(p:Int)/\∃a,zag (fun z=>decide (z=(p:Int))) q0=a::q'/\R.1[k]?=some a/\a∈R.2.2)):=fun k q' h=>by
  have h1:=(List.getElem?_eq_some_iff.1 h).1
  rw [L2,List.length_map] at h1
  have e1:=List.getElem?_eq_getElem h1
  obtain ⟨o,e2⟩:=hgetO e1
  refine ⟨_,o,e1,e2,?_⟩
  rcases H k o _ e2 (hgetQ e1) with ⟨a,b,d⟩ | ⟨a,b,d,f⟩ | ⟨a,x,r,b,d,f,y⟩
  ·rw [h] at d;exact .inl ⟨a,b,Option.some.inj d⟩
  ·rw [h] at f;exact .inr (.inl ⟨a,b,d,Option.some.inj f⟩)
  ·rw [h] at f;cases f;exact .inr (.inr ⟨a,x,b,d,y⟩)
 have hsub:∀(k:Nat) q',R.2.1[k]?=some q'->∃q0,(s.part (pOf c p)).queues[k]?=some q0/\q'.Sublist (zag (fun z=>decide (z=(p:Int))) q0):=fun k q' h=>by
  obtain ⟨q0,o,e1,e2,h3⟩:=hback k q' h
  refine ⟨q0,e1,?_⟩
  rcases h3 with ⟨_,_,e⟩ | ⟨_,_,_,e⟩ | ⟨_,a,e,_⟩
  ·rw [e];exact List.Sublist.refl _
  ·rw [e];exact List.nil_sublist _
  ·rw [e];exact List.sublist_cons_self ..
 have hownAt:∀(k:Nat) o',R.1[k]?=some o'->o'= -1\/(o'≠(p:Int)/\((s.part (pOf c p)).owners[k]?=some o'\/∃q0,(s.part (pOf c p)).queues[k]?=some q0/\o'∈q0)):=fun k o' h=>by
  have h1:=(List.getElem?_eq_some_iff.1 h).1
  rw [L1] at h1
  have hq1:k<(s.part (pOf c p)).queues.length:=by rw [List.length_map] at hlen;omega
  have e1:=List.getElem?_eq_getElem hq1
  have e2:=List.getElem?_eq_getElem h1
  rcases H k _ _ e2 (hgetQ e1) with ⟨a,b,d⟩ | ⟨a,b,d,f⟩ | ⟨a,x,r,b,d,f,y⟩
  ·rw [h] at b;cases b;exact .inr ⟨a,.inl e2⟩
  ·rw [h] at d;cases d;exact .inl rfl
  ·rw [h] at d;cases d
   have hx:o'∈zag (fun z=>decide (z=(p:Int))) (s.part (pOf c p)).queues[k]:=by rw [b];exact List.mem_cons_self ..
   exact .inr ⟨hnotp e1 hx,.inr ⟨_,e1,dropFirst_sub.subset hx⟩⟩
 have g3:Good c fl (s.setI (pOf c p) {s.part (pOf c p) with owners:=R.1,queues:=R.2.1}) (fun q=>(q:Int)∈R.2.2) (fun q=>q=p) T:=by
  refine g.locks ⟨pm.cur,pm.logl,pm.log,pm.lost,pm.forb,pm.full,by show (R.1.length:Int)=_;rw [L1];exact pm.ownl,by show (R.2.1.length:Int)=_;rw [L2,List.length_map];exact pm.quel⟩ (fun k o' h=> ?_) (fun k q' h=> ?_) (fun k q0 h=> ?_) (fun q hq=>by rw [hq];exact hps) (fun _ h=>h.elim) fun q h=>.inr ?_
  ·rcases hownAt k o' h with h1 | ⟨h1,h2 | ⟨q0,h2,h3⟩⟩
   ·exact .inl h1
   ·exact g.own _ hi k o' h2
   ·obtain ⟨a1,a2,a3,a4,a5,_⟩:=hother h2 h3 h1
    refine .inr ⟨a1,a2,a3,.inl ?_⟩
    rw [livesB_iff]
    omega
  ·have h:R.2.1[k]?=some q':=h
   obtain ⟨q0,o,e1,e2,h3⟩:=hback k q' h
   obtain ⟨q1,f1,f2⟩:=hsub k q' h
   rw [e1] at f1
   cases f1
   obtain ⟨d1,d2,d3⟩:=g.que _ hi k q0 e1
   refine ⟨q0,e1,f2.trans dropFirst_sub,fun hne=> ?_,fun z hz hX=> ?_⟩
   ·show ∃o,R.1[k]?=some o/\o≠ -1/\o∉q'
    rcases h3 with ⟨x1,x2,x3⟩ | ⟨x1,x2,x3,x4⟩ | ⟨x1,a,x2,x3,x4⟩
    ·have hq0:q0≠ []:=fun h=>hne (List.eq_nil_of_sublist_nil (h▸f2.trans dropFirst_sub))
     obtain ⟨o1,y1,y2,y3⟩:=d3 hq0
     rw [e2] at y1
     cases y1
     exact ⟨o,x2,y2,fun hm=>y3 ((f2.trans dropFirst_sub).subset hm)⟩
    ·exact absurd x4 hne
    ·have ha:a∈zag (fun z=>decide (z=(p:Int))) q0:=by rw [x2];exact List.mem_cons_self ..
     have:=(hother e1 (dropFirst_sub.subset ha) (hnotp e1 ha)).1
     refine ⟨a,x3,by omega,fun hm=> ?_⟩
     have nd:=d1.sublist (dropFirst_sub (f:=fun z=>decide (z=(p:Int))))
     rw [x2,List.nodup_cons] at nd
     exact nd.1 hm
   ·have hz1:=f2.subset hz
    have hzp:=hnotp e1 hz1
    have hzo:=hother e1 (dropFirst_sub.subset hz1) hzp
    have ez:((z.toNat:Nat):Int)=z:=by have:=hzo.1;omega
    have hX:((z.toNat:Nat):Int)∈R.2.2:=hX
    rw [ez] at hX
    rcases hgiven z hX with h5 | ⟨k2,q2,r2,y1,y2,y3⟩
    ·have:=hzo.1;omega
    ·have hk:=hdist k k2 z _ _ (hgetQ e1) (hgetQ y2) hz1 (by rw [y3];exact List.mem_cons_self ..)
     subst hk
     rw [e1] at y2
     cases y2
     rw [e2] at y1
     cases y1
     rcases h3 with ⟨x1,_⟩ | ⟨_,x2,_⟩ | ⟨x1,a,x2,x3,x4⟩
     ·exact x1 rfl
     ·rw [x2] at y3;cases y3
     ·rw [x2] at y3
      cases y3
      have nd:=d1.sublist (dropFirst_sub (f:=fun z=>decide (z=(p:Int))))
      rw [x2,List.nodup_cons] at nd
      exact nd.1 hz
  ·obtain ⟨o,e2⟩:=hgetO h
   have key:∀z∈q0,z=(p:Int)\/z∈zag (fun z=>decide (z=(p:Int))) q0:=fun z hz=>by
    by_cases e:z=(p:Int)
    ·exact .inl e
    ·exact .inr (zoq hz (decide_eq_false e))
   show ∃q',R.2.1[k]?=some q'/\_
   rcases H k o _ e2 (hgetQ h) with ⟨a,b,d⟩ | ⟨a,b,d,f⟩ | ⟨a,x,r,b,d,f,y⟩
   ·refine ⟨_,d,fun z hz=> ?_⟩
    rcases key z hz with h1 | h1
    ·exact .inr (.inr (by omega))
    ·exact .inl h1
   ·refine ⟨_,f,fun z hz=> ?_⟩
    rcases key z hz with h1 | h1
    ·exact .inr (.inr (by omega))
    ·rw [b] at h1;cases h1
   ·refine ⟨_,f,fun z hz=> ?_⟩
    rcases key z hz with h1 | h1
    ·exact .inr (.inr (by omega))
    ·have hz0:=(hother h (dropFirst_sub.subset h1) (hnotp h h1)).1
     rw [b] at h1
     rcases List.mem_cons.1 h1 with rfl | h1
     ·refine .inr (.inl ?_)
      show ((z.toNat:Nat):Int)∈R.2.2
      rw [show ((z.toNat:Nat):Int)=z by omega]
      exact y
     ·exact .inl h1
  ·have h:(q:Int)∈R.2.2:=h
   rcases hgiven _ h with h1 | ⟨k,q0,r,e1,e2,e3⟩
   ·omega
   ·have hm:(q:Int)∈zag (fun z=>decide (z=(p:Int))) q0:=by rw [e3];exact List.mem_cons_self ..
    have ho:=hother e2 (dropFirst_sub.subset hm) (hnotp e2 hm)
    rw [Int.toNat_natCast] at ho
    exact ⟨ho.2.2.2.1,ho.2.2.2.2.1,ho.2.2.1⟩
 refine ⟨Good.givens g3 HP fun a ha=> ?_,fun i hi' k h=> ?_,fun i hi' k q h hm=> ?_⟩
 ·rcases hgiven a ha with h | ⟨k,q0,r,e1,e2,e3⟩
  ·exact .inl h
  ·have hm:a∈zag (fun z=>decide (z=(p:Int))) q0:=by rw [e3];exact List.mem_cons_self ..
   obtain ⟨a1,a2,a3,a4,a5,n,a6,_⟩:=hother e2 (dropFirst_sub.subset hm) (hnotp e2 hm)
   exact .inr ⟨a1,a2,a4,by show (s.proc a.toNat).state≠4;omega,n,a6⟩
 ·by_cases e:i=pOf c p
  ·subst e
   rw [zji] at h
   rcases hownAt k _ h with h1 | ⟨h1,_⟩
   ·omega
   ·exact h1 rfl
  ·rw [zko e] at h
   rcases g.own i hi' k _ h with h1 | ⟨_,_,h1,_⟩
   ·omega
   ·rw [Int.toNat_natCast] at h1;exact e h1.symm
 ·by_cases e:i=pOf c p
  ·subst e
   rw [zji] at h
   obtain ⟨q0,e1,e2⟩:=hsub k q h
   exact hnotp e1 (e2.subset hm) rfl
  ·rw [zko e] at h
   have:=((g.que i hi' k q h).2.1 _ hm).2.2.1
   rw [Int.toNat_natCast] at this
   exact e this.symm
end
section
variable {c:PCfg} {fl:Nat->Nat->Bool} {s:MS} {T:Int} {p:Nat} {X Z:Nat->Prop}
theorem zfw1 :∀ {l:List Int} {s:MS},(∀a∈l,a≠(p:Int))->((l.foldl zca s).proc p)=s.proc p
 | [],_,_=>rfl
 | a::l,s,h=>by
  rw [List.foldl_cons,zfw1 fun b hb=>h b (List.mem_cons_of_mem _ hb)]
  unfold zca
  split
  ·have:=h a (List.mem_cons_self ..)
   exact zas (by omega)
  ·rfl
theorem zfx1 {q:Nat}:∀ {l:List Int} {s:MS},((l.foldl zca s).proc q).lanes=(s.proc q).lanes/\(l.foldl zca s).part=s.part
 | [],_=>⟨rfl,rfl⟩
 | a::l,s=>by
  have h:=zfx1 (q:=q) (l:=l) (s:=zca s a)
  have h2:((zca s a).proc q).lanes=(s.proc q).lanes/\(zca s a).part=s.part:=by
   unfold zca
   split
   ·unfold goesS
    refine ⟨?_,rfl⟩
    by_cases e:q=a.toNat
    ·subst e;rw [zaj];rfl
    ·rw [zas e]
   ·exact ⟨rfl,rfl⟩
  rw [List.foldl_cons]
  exact ⟨h.1.trans h2.1,h.2.trans h2.2⟩
theorem Good.empty (g:Good c fl s No (fun q=>q=p) T) (hp:p<nQ c) (hst:(s.proc p).state=5\/(s.proc p).state=6) (hno:∀i,i<nP c->∀(k:Nat),(s.part i).owners[k]?≠some (p:Int)) (hnq:∀i,i<nP c->∀(k:Nat) q,(s.part i).queues[k]?=some q->(p:Int)∉q)
  (hnw:∀r,r<nQ c->∀l∈(s.proc r).lanes,∀w∈l.waiters,w.proc≠(p:Int)):Good c fl (end6 (end5 s p) p) (fun q=>(q:Int)∈(((s.proc p).lanes.flatMap (·.waiters)).map (·.proc))) No T:=by
 have hat:(end6 (end5 s p) p).proc p={s.proc p with timer:=0,wake:=0,lanes:=(s.proc p).lanes.map endLX}:=by
  unfold end6 end5
  rw [zaj,zaj]
 have hne:∀r,r≠p->(end6 (end5 s p) p).proc r=s.proc r:=fun r e=>by
  unfold end6 end5
  rw [zas e,zas e]
 have hpart:(end6 (end5 s p) p).part=s.part:=rfl
 have htick:(end6 (end5 s p) p).tick=s.tick:=rfl
 have hX:∀q:Nat,(q:Int)∈(((s.proc p).lanes.flatMap (·.waiters)).map (·.proc))->q≠p/\(s.proc q).state=2/\∃n,insX c q (s.proc q)=some n/\n.op=24/\regR (s.proc q).regs n.b=(p:Int):=by
  intro q h
  obtain ⟨w,hw,e⟩:=List.mem_map.1 h
  obtain ⟨l,hl,hwl⟩:=List.mem_flatMap.1 hw
  obtain ⟨i,hi,he⟩:=List.getElem_of_mem hl
  have hg:(s.proc p).lanes[i]?=some l:=by rw [List.getElem?_eq_getElem hi,he]
  obtain ⟨a1,a2,a3,a4,a5⟩:=(g.lan p hp i l hg).2.2 w hwl
  have hwp:=hnw p hp l hl w hwl
  have e2:w.proc.toNat=q:=by clear a5;omega
  rcases a5 with a5 | ⟨a5,n,a6,a7,a8,_⟩
  ·exact absurd (by omega) hwp
  ·rw [e2] at a5 a6 a8
   exact ⟨by omega,a5,n,a6,a7,a8⟩
 generalize end6 (end5 s p) p=s' at*
 refine ⟨by rw [htick];exact g.tick,fun i hi=>by rw [hpart];exact g.part i hi,fun r hr=> ?_,fun i hi k o h=> ?_,fun i hi k q h=> ?_,fun r hr i l h=> ?_,fun r hr hx h=> ?_,fun r hr hx h=> ?_⟩
 ·rw [htick]
  have pm:=g.proc r hr
  have ht:=g.tick
  by_cases e:r=p
  ·subst e
   rw [hat]
   refine ⟨pm.st,pm.pc,by show (List.map _ _).length=_;rw [List.length_map];exact pm.lnl,by show 0<=(s.proc r).cursor/\(s.proc r).cursor<((List.map _ _).length:Int);rw [List.length_map];exact pm.cur,by show (0:Int)<=0/\(0:Int)<=_;omega,by show (0:Int)<=0/\(0:Int)<=_;omega,.inr ⟨fun h=>absurd h (Int.lt_irrefl 0),fun h=> ?_⟩,fun h=>⟨.inr rfl,(pm.dead h).2⟩,fun i l h=> ?_,fun h=> ?_,fun h=> ?_,fun h=> ?_,fun h=> ?_,pm.regs⟩
   ·have h:(s.proc r).state=4:=h;omega
   ·have h:((s.proc r).lanes.map endLX)[i]?=some l:=h
    rw [List.getElem?_map] at h
    cases e:(s.proc r).lanes[i]? with
    | none=>rw [e] at h;cases h
    | some l0=>
     rw [e] at h
     cases h
     exact pm.lan i l0 e
   ·have h:(s.proc r).state=1:=h;omega
   ·have h:(s.proc r).state=2:=h;omega
   ·have h:(s.proc r).state=3:=h;omega
   ·have h:(s.proc r).state=4:=h;omega
  ·rw [hne r e]
   exact ⟨pm.st,pm.pc,pm.lnl,pm.cur,pm.tim,pm.wak,.inr (pm.slp.resolve_left e),fun h=>⟨.inr ((pm.dead h).1.resolve_left e),(pm.dead h).2⟩,pm.lan,pm.recv,pm.snd,pm.lck,pm.slpi,pm.regs⟩
 ·rw [hpart] at h
  rcases g.own i hi k o h with h1 | ⟨h1,h2,h3,h4⟩
  ·exact .inl h1
  ·have hop:o.toNat≠p:=fun e=>hno i hi k (by rw [h,<-e];congr 1;omega)
   refine .inr ⟨h1,h2,h3,.inl ?_⟩
   rw [hne _ hop]
   exact h4.resolve_right hop
 ·rw [hpart] at h ⊢
  obtain ⟨b1,b2,b3⟩:=g.que i hi k q h
  refine ⟨b1,fun z hz=> ?_,b3⟩
  obtain ⟨a1,a2,a3,a4,a5⟩:=b2 z hz
  have hzp:z.toNat≠p:=fun e=>hnq i hi k q h (by rw [show (p:Int)=z by clear a5;omega];exact hz)
  have a5:=a5.resolve_left hzp
  refine ⟨a1,a2,a3,fun hx=> ?_,.inr ?_⟩
  ·have:=(hX _ hx).2.1
   have h9:=a5.1
   clear a5
   omega
  ·rw [hne _ hzp];exact a5
 ·by_cases e:r=p
  ·subst e
   rw [hat] at h
   have h:((s.proc r).lanes.map endLX)[i]?=some l:=h
   rw [List.getElem?_map] at h
   cases e:(s.proc r).lanes[i]? with
   | none=>rw [e] at h;cases h
   | some l0=>
    rw [e] at h
    cases h
    exact ⟨List.Pairwise.nil,fun h=>absurd rfl h,fun w hw=>by cases hw⟩
  ·rw [hne r e] at h
   obtain ⟨b1,b2,b3⟩:=g.lan r hr i l h
   refine ⟨b1,fun hw=> ?_,fun w hw=> ?_⟩
   ·obtain ⟨a1,a2,a3⟩:=b2 hw
    exact ⟨a1,.inl (by rw [hne r e];exact a2.resolve_right e),a3⟩
   ·obtain ⟨a1,a2,a3,a4,a5⟩:=b3 w hw
    have hwp:=hnw r hr l (List.mem_of_getElem? h) w hw
    have hwp:w.proc.toNat≠p:=fun e=>hwp (by clear a5;omega)
    obtain ⟨c1,n,c2,c3,c4,c5⟩:=a5.resolve_left hwp
    refine ⟨a1,a2,a3,fun hx=> ?_,.inr ?_⟩
    ·obtain ⟨_,_,n',d1,_,d2⟩:=hX _ hx
     rw [c2] at d1
     cases d1
     rw [c4] at d2
     clear a5
     omega
    ·rw [hne _ hwp];exact ⟨c1,n,c2,c3,c4,c5⟩
 ·have hrp:r≠p:=fun e=>by subst e;rw [hat] at h;have h:(s.proc r).state=3:=h;omega
  rw [hne r hrp] at h
  rw [hpart]
  exact g.in3 r hr (fun h=>h) h
 ·have hrp:r≠p:=fun e=>by subst e;rw [hat] at h;have h:(s.proc r).state=2:=h;omega
  rw [hne r hrp] at h
  obtain ⟨r',h1,l,h2,w,h3,h4⟩:=g.in2 r hr (fun h=>h) h
  have hr':r'≠p:=fun e=>by
   subst e
   refine hx ?_
   show (r:Int)∈_
   exact List.mem_map.2 ⟨w,List.mem_flatMap.2 ⟨l,List.mem_of_getElem? h2,h3⟩,h4⟩
  exact ⟨r',h1,l,by rw [hne r' hr'];exact h2,w,h3,h4⟩
theorem Good.ends (m:CfgM c) (g:Good c fl s No No T) {st:Int} (hst:st=5\/st=6) (hp:p<nQ c):Good c fl (endS c s p st) No No T:=by
 have hi:=m.pOf_lt (p:=p)
 rw [zld1]
 have g1:=g.dying (st:=st) hst hp
 have e1:((end1 s p st).proc p).state=st:=by unfold end1;rw [zaj]
 obtain ⟨g2,hw2⟩:=Good.leave (p:=p) (s:=end1 s p st) (L:=ofI c (pOf c p)) g1 ⟨by rw [e1];omega,by rw [e1];omega⟩ fun q=>ofI_mem
 have g2:Good c fl (end2 c s p st) No (fun q=>q=p) T:=g2
 have hw2:∀r,r<nQ c->∀l∈((end2 c s p st).proc r).lanes,∀w∈l.waiters,w.proc≠(p:Int):=hw2
 have e2:((end2 c s p st).proc p).state=st:=by
  show (if p∈ofI c (pOf c p) then zkw p ((end1 s p st).proc p) else (end1 s p st).proc p).state=st
  split<;>exact e1
 obtain ⟨g4,hno,hnq⟩:=g2.endLocks hi (by rw [e2];omega)
 have g4:Good c fl (end4 c (end2 c s p st) p) No (fun q=>q=p) T:=g4
 have hk:=fun q=>zfx1 (q:=q) (l:=(zip p ((end2 c s p st).part (pOf c p))).2) (s:=end3 c (end2 c s p st) p)
 have hpart4:(end4 c (end2 c s p st) p).part=(end3 c (end2 c s p st) p).part:=(hk 0).2
 have hlan4:∀q,((end4 c (end2 c s p st) p).proc q).lanes=((end2 c s p st).proc q).lanes:=fun q=>(hk q).1
 have hself:(end4 c (end2 c s p st) p).proc p=(end2 c s p st).proc p:=by
  refine zfw1 (s:=end3 c (end2 c s p st) p) fun a ha=> ?_
  have hlen:((end2 c s p st).part (pOf c p)).owners.length=(((end2 c s p st).part (pOf c p)).queues.map (zag fun z=>decide (z=(p:Int)))).length:=by
   have:=(g2.part _ hi).ownl
   have:=(g2.part _ hi).quel
   rw [List.length_map]
   omega
  rcases (zfv1 (p:=(p:Int)) hlen).2.2.2.1 a ha with h | ⟨k,r,h1,h2⟩
  ·omega
  ·intro e
   rw [List.getElem?_map] at h2
   cases e3:((end2 c s p st).part (pOf c p)).queues[k]? with
   | none=>rw [e3] at h2;cases h2
   | some q0=>
    rw [e3] at h2
    have h2:=Option.some.inj h2
    have nd:=(g2.que _ hi k q0 e3).1
    exact zmc (g:=fun z=>z) (by simpa using nd) a (by rw [h2];exact List.mem_cons_self ..) e
 have hst4:((end4 c (end2 c s p st) p).proc p).state=5\/((end4 c (end2 c s p st) p).proc p).state=6:=by rw [hself,e2];exact hst
 generalize end4 c (end2 c s p st) p=s4 at*
 have g6:=g4.empty hp hst4 (fun i hi k=>by rw [hpart4];exact hno i hi k) (fun i hi k q h=>by rw [hpart4] at h;exact hnq i hi k q h) fun r hr l hl=>by rw [hlan4] at hl;exact hw2 r hr l hl
 have e7:end7 c (end5 s4 p) p=((s4.proc p).lanes.flatMap (·.waiters)).foldl (fun s w=>toldS c s w.proc.toNat 2) (end6 (end5 s4 p) p):=by
  unfold end7
  have:((end5 s4 p).proc p).lanes=(s4.proc p).lanes:=by unfold end5;rw [zaj]
  rw [this]
 rw [e7]
 refine Good.tolds g6 ?_ fun w hw=> ?_
 · -- who waits stands in one lane alone
  have key:∀(ls:List PLane) (j:Nat),(∀(i:Nat) l,ls[i]?=some l->(l.waiters.map (·.proc)).Nodup/\(l.waiters≠ []->i=j))->((ls.flatMap (·.waiters)).map (·.proc)).Nodup:=by
   intro ls
   induction ls with
   | nil=>intro j _;exact List.Pairwise.nil
   | cons a ls ih=>
    intro j h
    rw [List.flatMap_cons,List.map_append]
    obtain ⟨h1,h2⟩:=h 0 a rfl
    by_cases e:a.waiters=[]
    ·rw [e]
     cases j with
     | zero=>
      have:ls.flatMap (·.waiters)=[]:=by
       rw [List.flatMap_eq_nil_iff]
       intro l hl
       obtain ⟨i,hi,he⟩:=List.getElem_of_mem hl
       by_cases e2:l.waiters=[]
       ·exact e2
       ·have:=(h (i+1) l (by simp [List.getElem?_eq_getElem hi,he])).2 e2
        omega
      rw [this]
      exact List.Pairwise.nil
     | succ j=>
      refine ih j fun i l hl=> ?_
      obtain ⟨h3,h4⟩:=h (i+1) l (by simpa using hl)
      exact ⟨h3,fun hne=>by have:=h4 hne;omega⟩
    ·have hj:=h2 e
     subst hj
     have:ls.flatMap (·.waiters)=[]:=by
      rw [List.flatMap_eq_nil_iff]
      intro l hl
      obtain ⟨i,hi,he⟩:=List.getElem_of_mem hl
      by_cases e2:l.waiters=[]
      ·exact e2
      ·have:=(h (i+1) l (by simp [List.getElem?_eq_getElem hi,he])).2 e2
       omega
     rw [this]
     simpa using h1
  refine key _ (pOf c p) fun i l hl=> ?_
  obtain ⟨b1,b2,b3⟩:=g4.lan p hp i l hl
  exact ⟨b1,fun hne=>(b2 hne).1⟩
 ·obtain ⟨l,hl,hwl⟩:=List.mem_flatMap.1 hw
  obtain ⟨i,hi2,he⟩:=List.getElem_of_mem hl
  have hg:(s4.proc p).lanes[i]?=some l:=by rw [List.getElem?_eq_getElem hi2,he]
  obtain ⟨a1,a2,a3,a4,a5⟩:=(g4.lan p hp i l hg).2.2 w hwl
  have hwp:=hw2 p hp l (by rw [hlan4] at hl;exact hl) w hwl
  have hne:w.proc.toNat≠p:=fun e=>hwp (by clear a5;omega)
  obtain ⟨c1,n,c2,_⟩:=a5.resolve_left hne
  have e:(end6 (end5 s4 p) p).proc w.proc.toNat=s4.proc w.proc.toNat:=by
   unfold end6 end5
   rw [zas hne,zas hne]
  rw [e]
  exact ⟨a1,a2,by clear a5;omega,n,c2⟩
end
section
variable {c:PCfg} {fl:Nat->Nat->Bool} {s:MS} {T:Int} {p:Nat} {t:Int} {x:PProcess} {z:Prop}
theorem Good.out (m:CfgM c) (g:Good c fl s No No T) {v:Int} (hp:p<nQ c) (ht:T=s.tick+1):Good c fl (outS c s p v) No No T:=by
 have hi:=m.pOf_lt (p:=p)
 have pm:=g.part _ hi
 have h0:=g.tick
 unfold outS
 dsimp only
 by_cases h:((s.part (pOf c p)).log.length:Int)<c.log
 ·rw [if_pos h]
  refine g.parts ⟨pm.cur,by show (((s.part (pOf c p)).log++ [_]).length:Int)<=_;rw [List.length_append,List.length_singleton];omega,⟨?_,fun e he=> ?_⟩,pm.lost,pm.forb,fun hl=> ?_,pm.ownl,pm.quel⟩ rfl rfl
  ·show ((s.part (pOf c p)).log++ [_]).Pairwise _
   rw [List.pairwise_append]
   refine ⟨pm.log.1,List.pairwise_singleton _ _,fun a ha b hb=> ?_⟩
   have:=pm.log.2 a ha
   rw [List.mem_singleton.1 hb]
   show a.tick<=s.tick
   omega
  ·have he:e∈(s.part (pOf c p)).log++ [⟨s.tick,(p:Int),v⟩]:=he
   rcases List.mem_append.1 he with he | he
   ·exact pm.log.2 e he
   ·rw [List.mem_singleton.1 he]
    refine ⟨h0,by show s.tick<T;omega,by show (0:Int)<=(p:Int);omega,hp,rfl⟩
  ·have hl:0<(s.part (pOf c p)).lost:=hl
   have:=pm.full hl
   show c.log<=(((s.part (pOf c p)).log++ [_]).length:Int)
   rw [List.length_append]
   omega
 ·rw [if_neg h]
  exact g.parts ⟨pm.cur,pm.logl,pm.log,zyw pm.lost,pm.forb,fun _=>by show c.log<=((s.part (pOf c p)).log.length:Int);omega,pm.ownl,pm.quel⟩ rfl rfl
theorem zrs :x.put x.core=x:=rfl
theorem ProcM.sleep (pm:ProcM c fl t p z x) (h0:x.state=0) {n:PIns} (hn:insX c p x=some n) (ho:n.op=28) {w:Int} (hw:0<w/\w<=t+1099511627776):ProcM c fl t p z {x with state:=4,wake:=w} where
 st:=by show (0:Int)<=4/\(4:Int)<=6;omega
 pc:=pm.pc
 lnl:=pm.lnl
 cur:=pm.cur
 tim:=pm.tim
 wak:=by show 0<=w/\w<=_;omega
 slp:=.inr ⟨fun _=>rfl,fun _=>hw.1⟩
 dead:=fun h=>by have h:(4:Int)=5\/(4:Int)=6:=h;omega
 lan:=pm.lan
 recv:=fun h=>by have h:(4:Int)=1:=h;omega
 snd:=fun h=>by have h:(4:Int)=2:=h;omega
 lck:=fun h=>by have h:(4:Int)=3:=h;omega
 slpi:=fun _=>⟨n,hn,ho⟩
 regs:=pm.regs
theorem ProcM.timer (pm:ProcM c fl t p z x) (h0:x.state=0) {w:Int} (hw:0<=w/\w<=t+1099511627776):ProcM c fl t p z {x with fired:=false,timer:=w} where
 st:=pm.st
 pc:=pm.pc
 lnl:=pm.lnl
 cur:=pm.cur
 tim:=hw
 wak:=pm.wak
 slp:=pm.slp
 dead:=fun h=>by have h:x.state=5\/x.state=6:=h;omega
 lan:=pm.lan
 recv:=fun h=>by have h:x.state=1:=h;omega
 snd:=pm.snd
 lck:=pm.lck
 slpi:=pm.slpi
 regs:=pm.regs
theorem Good.do_ {D:Int->Int->Int->Int} (m:CfgM c) (g:Good c fl s No No T) (hp:p<nQ c) (h0:(s.proc p).state=0) (ht:T=s.tick+1):Good c fl (doS c D fl s p) No No T:=by
 have pm:=g.proc p hp
 have htk:=g.tick
 have oo:Out s No No p:=zhm ⟨by omega,by omega⟩
 have hself:s.setP p (s.proc p)=s:=by unfold MS.setP;rw [zio]
 have hrdy:∀ {y:PProcess},y.state=0\/y.state=4->(zbv (s.proc p)=true->zbv y=true):=fun {y} hy _=>by rw [livesB_iff];omega
 unfold doS
 dsimp only
 rcases zlc1 (D:=D) (l:=zbz c p) (k:=(s.proc p).core) (tk:=s.tick) (self:=(p:Int)) with ⟨e1,e2⟩ | ⟨n,hn,hw,⟨_,e⟩ | ⟨w,st,hwt,e⟩⟩
 ·rw [e1,if_pos rfl,e2,zrs,hself]
  exact g.ends m (.inl rfl) hp
 ·rw [e]
  dsimp only
  rw [if_neg (by omega),if_neg (by omega),if_neg (by omega),if_neg (by omega),if_neg (by omega),if_neg (by omega),if_neg (by omega),if_neg (by omega),if_neg (by omega)]
  have hr:=znm1 (D:=D) (tk:=s.tick) (self:=(p:Int)) hn hw pm.regs
  exact zkt (g.core oo pm rfl h0 hr.1 hr.2)
 ·rw [e]
  dsimp only
  have hins:insX c p (s.proc p)=some n:=hn
  have hlt:=zua hins
  have gn:Good c fl (s.setP p ((s.proc p).put (nextC (s.proc p).core))) No No T:=zkt (g.core oo pm rfl h0 ⟨by show 0<=(s.proc p).pc+1;omega,by show (s.proc p).pc+1<=_;omega⟩ pm.regs)
  have hmn:∀v:Int,0<v->0<mnI v 1099511627776/\mnI v 1099511627776<=1099511627776:=fun v hv=>by unfold mnI;split<;>omega
  rcases znl1 hwt with ⟨a,b⟩ | ⟨o,a,b⟩ | ⟨o,a,b⟩ | ⟨o,a,b⟩ | ⟨a,b⟩ | ⟨o,a,b⟩ | ⟨o,a,d,b⟩ | ⟨o,a,d,b⟩ | ⟨a,b⟩
  ·rw [if_pos a,b]
   simp only [if_true]
   rw [zrs,hself]
   exact g.ends m (.inl rfl) hp
  ·rw [a,b]
   dsimp only
   rw [if_neg (by omega),if_pos rfl]
   simp only [if_true]
   rw [zrs,hself]
   exact g.send m hp h0 hins o rfl rfl
  ·rw [if_neg (by omega),if_neg (by omega),if_pos a,b]
   simp only [if_true]
   rw [zrs,hself]
   exact g.take m hp h0 hins fun _=>o
  ·rw [if_neg (by omega),if_neg (by omega),if_neg (by omega),if_pos a,b]
   simp only [if_true]
   rw [zrs,hself]
   exact g.take m hp h0 hins fun h=>by cases h
  ·rw [if_neg (by omega),if_neg (by omega),if_neg (by omega),if_neg (by omega),if_pos a,b]
   simp only [Bool.false_eq_true,if_false]
   rw [zaj]
   have oo1:Out (s.setP p ((s.proc p).put (nextC (s.proc p).core))) No No p:=zhm (by rw [zaj];exact ⟨by show (s.proc p).state≠2;omega,by show (s.proc p).state≠3;omega⟩)
   have pm1:=gn.proc p hp
   rw [zaj] at pm1
   have htim:0<=(if 0<w.value then s.tick+mnI w.value 1099511627776 else 0)/\(if 0<w.value then s.tick+mnI w.value 1099511627776 else 0)<=s.tick+1099511627776:=by
    split
    ·rename_i h
     have:=hmn _ h
     omega
    ·omega
   refine zkt (gn.run oo1 (pm1.timer h0 htim) ⟨by show (s.proc p).state≠2;omega,by show (s.proc p).state≠3;omega⟩ (by rw [zaj]) fun _=> ?_)
   rw [livesB_iff]
   exact ⟨by show (s.proc p).state≠5;omega,by show (s.proc p).state≠6;omega⟩
  ·rw [if_neg (by omega),if_neg (by omega),if_neg (by omega),if_neg (by omega),if_neg (by omega),if_pos a,b]
   simp only [if_true]
   rw [zrs,hself]
   have hmx:0<mxI w.value 1:=by unfold mxI;split<;>omega
   have:=hmn _ hmx
   refine zkt (g.run oo (pm.sleep h0 hins o (w:=s.tick+mnI (mxI w.value 1) 1099511627776) ⟨by omega,by omega⟩) ⟨by show (4:Int)≠2;omega,by show (4:Int)≠3;omega⟩ rfl fun _=> ?_)
   rw [livesB_iff]
   exact ⟨by show (4:Int)≠5;omega,by show (4:Int)≠6;omega⟩
  ·rw [if_neg (by omega),if_neg (by omega),if_neg (by omega),if_neg (by omega),if_neg (by omega),if_neg (by omega),if_pos a,b]
   simp only [if_true]
   rw [zrs,hself]
   exact g.lock m hp h0 hins o d.symm
  ·rw [if_neg (by omega),if_neg (by omega),if_neg (by omega),if_neg (by omega),if_neg (by omega),if_neg (by omega),if_neg (by omega),if_pos a,b]
   simp only [Bool.false_eq_true,if_false]
   have hwl:=zus (m.ins hins).1 (.inr o)
   exact gn.unlock m hp (by rw [d];exact hwl)
  ·rw [if_neg (by omega),if_neg (by omega),if_neg (by omega),if_neg (by omega),if_neg (by omega),if_neg (by omega),if_neg (by omega),if_neg (by omega),if_pos a,b]
   simp only [Bool.false_eq_true,if_false]
   exact gn.out m hp ht
end
section
variable {c:PCfg} {fl:Nat->Nat->Bool} {s:MS} {T:Int} {p:Nat} {t:Int} {x:PProcess} {z:Prop}
theorem zzs1 {to v:Int}:(sendS c fl s p to v).tick=s.tick:=by
 unfold sendS
 repeat' split
 all_goals rfl
theorem zii1 {a:Int}:(zca s a).tick=s.tick:=by unfold zca;split<;>rfl
theorem zfy1 :∀ {l:List Int} {s:MS},(l.foldl zca s).tick=s.tick
 | [],_=>rfl
 | a::l,s=>by rw [List.foldl_cons,zfy1,zii1]
theorem zij1 {v:Int}:∀ {l:List zcw} {s:MS},(l.foldl (fun s w=>toldS c s w.proc.toNat v) s).tick=s.tick
 | [],_=>rfl
 | a::l,s=>by rw [List.foldl_cons,zij1];rfl
theorem znt1 {b:Bool}:(takeS c s p b).tick=s.tick:=by
 unfold takeS
 dsimp only
 repeat' split
 all_goals rfl
theorem zzt1 {n:Int}:(lockS c s p n).tick=s.tick:=by
 unfold lockS
 dsimp only
 split<;>rfl
theorem zqu1 {n:Int}:(zqi c s p n).tick=s.tick:=by
 unfold zqi
 dsimp only
 split
 ·split
  ·rfl
  ·exact zii1
 ·rfl
theorem zcx2 {st:Int}:(endS c s p st).tick=s.tick:=by
 rw [zld1]
 unfold end7
 rw [zij1]
 show (end4 c (end2 c s p st) p).tick=_
 unfold end4
 rw [zfy1]
 rfl
theorem zzu1 {D:Int->Int->Int->Int}:(doS c D fl s p).tick=s.tick:=by
 unfold doS
 dsimp only
 split
 ·exact zcx2
 split
 ·exact zzs1
 split
 ·exact znt1
 split
 ·exact znt1
 split
 ·rfl
 split
 ·rfl
 split
 ·exact zzt1
 split
 ·exact zqu1
 split
 ·rfl
 ·rfl
theorem Good.widen {X Z:Nat->Prop} {T':Int} (g:Good c fl s X Z T) (h:T<=T'):Good c fl s X Z T':=
 ⟨g.tick,fun i hi=>by
  have pm:=g.part i hi
  exact ⟨pm.cur,pm.logl,⟨pm.log.1,fun e he=>by have:=pm.log.2 e he;exact ⟨this.1,by omega,this.2.2⟩⟩,pm.lost,pm.forb,pm.full,pm.ownl,pm.quel⟩,g.proc,g.own,g.que,g.lan,g.in3,g.in2⟩
theorem Good.due1 (g:Good c fl s No No T) (hp:p<nQ c):Good c fl (s.setP p (dueX s.tick (s.proc p))) No No T:=by
 have htk:=g.tick
 have hself:s.setP p (s.proc p)=s:=by unfold MS.setP;rw [zio]
 have g1:Good c fl (s.setP p (if 0<(s.proc p).wake/\(s.proc p).wake<=s.tick then {s.proc p with wake:=0,state:=0,pc:=(s.proc p).pc+1} else s.proc p)) No No T:=by
  by_cases h:0<(s.proc p).wake/\(s.proc p).wake<=s.tick
  ·rw [if_pos h]
   have pm:=g.proc p hp
   have h4:=(pm.slp.resolve_left (fun h=>h)).1 h.1
   obtain ⟨n,hn,_⟩:=pm.slpi h4
   have hlt:=zua hn
   refine zkt (g.run (zhm ⟨by omega,by omega⟩) ⟨by show (0:Int)<=0/\(0:Int)<=6;omega,by show 0<=(s.proc p).pc+1/\(s.proc p).pc+1<=_;omega,pm.lnl,pm.cur,pm.tim,by show (0:Int)<=0/\(0:Int)<=_;omega,.inr ⟨fun h=>absurd h (Int.lt_irrefl 0),fun h=>by have h:(0:Int)=4:=h;omega⟩,fun h=>by have h:(0:Int)=5\/(0:Int)=6:=h;omega,pm.lan,fun h=>by have h:(0:Int)=1:=h;omega,fun h=>by have h:(0:Int)=2:=h;omega,fun h=>by have h:(0:Int)=3:=h;omega,fun h=>by have h:(0:Int)=4:=h;omega,pm.regs⟩ ⟨by show (0:Int)≠2;omega,by show (0:Int)≠3;omega⟩ rfl fun _=>rfl)
  ·rw [if_neg h,hself];exact g
 generalize hy:(if 0<(s.proc p).wake/\(s.proc p).wake<=s.tick then ({s.proc p with wake:=0,state:=0,pc:=(s.proc p).pc+1}:PProcess) else s.proc p)=y at g1
 have e:dueX s.tick (s.proc p)=if 0<y.timer/\y.timer<=s.tick then {y with timer:=0,fired:=true,state:=if y.state=1 then 0 else y.state} else y:=by
  unfold dueX
  dsimp only
  rw [hy]
 rw [e]
 by_cases h:0<y.timer/\y.timer<=s.tick
 ·rw [if_pos h]
  have pm:=g1.proc p hp
  rw [zaj] at pm
  have hst:(if y.state=1 then (0:Int) else y.state)=y.state\/(y.state=1/\(if y.state=1 then (0:Int) else y.state)=0):=by
   by_cases h:y.state=1
   ·right;exact ⟨h,if_pos h⟩
   ·left;exact if_neg h
  have hcases:∀ {m:Int},m≠0->(if y.state=1 then (0:Int) else y.state)=m->y.state=m/\y.state≠1:=fun {m} hm h=>by
   by_cases h1:y.state=1
   ·rw [if_pos h1] at h;exact absurd h.symm hm
   ·rw [if_neg h1] at h;exact ⟨h,h1⟩
  have hb:=pm.st
  have g2:=g1.lanes (p:=p) (x':={y with timer:=0,fired:=true,state:=if y.state=1 then 0 else y.state}) (X':=No)
   ⟨by show 0<=(if y.state=1 then (0:Int) else y.state)/\(if y.state=1 then (0:Int) else y.state)<=6;split<;>omega,pm.pc,pm.lnl,pm.cur,by show (0:Int)<=0/\(0:Int)<=_;have:(s.setP p y).tick=s.tick:=rfl;omega,pm.wak,
    pm.slp.imp (fun h=>h) fun h2=>⟨fun h3=>by
     have:=h2.1 h3
     show (if y.state=1 then (0:Int) else y.state)=4
     rw [if_neg (by omega)];exact this,fun h3=>h2.2 (hcases (by decide) h3).1⟩,
    fun h3=>by
     have h3:(if y.state=1 then (0:Int) else y.state)=5\/(if y.state=1 then (0:Int) else y.state)=6:=h3
     have h4:y.state=5\/y.state=6:=h3.imp (fun h=>(hcases (by decide) h).1) fun h=>(hcases (by decide) h).1
     have:=(pm.dead h4).1.resolve_left (fun h=>h)
     omega,
    pm.lan,fun h3=>absurd (hcases (by decide) h3).1 (hcases (by decide) h3).2,fun h3=>pm.snd (hcases (by decide) h3).1,fun h3=>pm.lck (hcases (by decide) h3).1,fun h3=>pm.slpi (hcases (by decide) h3).1,pm.regs⟩
   (by rw [zaj];exact hst) (by rw [zaj]) (by rw [zaj]) (by rw [zaj]) (fun i l l' e1 e2=>by
    rw [zaj] at e1
    have e2:y.lanes[i]?=some l':=e2
    rw [e1] at e2
    cases e2
    refine ⟨List.Sublist.refl _,fun hne=> ?_,fun w hw=>.inl hw⟩
    exact ((g1.lan p hp i l (by rw [zaj];exact e1)).2.1 hne).2.2) hp (fun _ h=>h) (fun _ h=>h.elim)
  rw [zif] at g2
  exact g2
 ·rw [if_neg h];exact g1
def dueL (s:MS) (l:List Nat):MS:=⟨s.tick,s.part,fun q=>if q∈l then dueX s.tick (s.proc q) else s.proc q⟩
theorem Good.dues (g:Good c fl s No No T):∀(l:List Nat),(∀q∈l,q<nQ c)->l.Nodup->Good c fl (dueL s l) No No T
 | [],_,_=>by
  have e:dueL s []=s:=by unfold dueL;simp
  rw [e];exact g
 | q::l,h,hnd=>by
  rw [List.nodup_cons] at hnd
  have g1:=g.dues l (fun r hr=>h r (List.mem_cons_of_mem _ hr)) hnd.2
  have g2:=g1.due1 (p:=q) (h q (List.mem_cons_self ..))
  have e1:(dueL s l).proc q=s.proc q:=if_neg hnd.1
  have e:(dueL s l).setP q (dueX (dueL s l).tick ((dueL s l).proc q))=dueL s (q::l):=by
   rw [e1]
   unfold dueL MS.setP
   congr 1
   funext r
   unfold fset
   by_cases e:r=q
   ·subst e
    rw [if_pos rfl,if_pos (by simp)]
   ·rw [if_neg e]
    show (if r∈l then dueX s.tick (s.proc r) else s.proc r)=_
    by_cases e2:r∈l
    ·rw [if_pos e2,if_pos (by simp [e2])]
    ·rw [if_neg e2,if_neg (by simp [e2,e])]
  rw [<-e]
  exact g2
theorem Good.due (g:Good c fl s No No T) {i:Nat}:Good c fl (dueS c s i) No No T:=by
 have h:=g.dues (ofI c i) (fun q hq=>(ofI_mem.1 hq).1) znn1
 have e:dueL s (ofI c i)=dueS c s i:=by
  unfold dueL dueS
  congr 1
  funext q
  by_cases h:q<nQ c/\pOf c q=i
  ·rw [if_pos h,if_pos (ofI_mem.2 h)]
  ·rw [if_neg h,if_neg fun h2=>h (ofI_mem.1 h2)]
 rw [<-e]
 exact h
theorem zvy1 {i a:Nat} (h:pickI c s i=some a):a<(ofI c i).length/\(s.proc ((ofI c i).getD a 0)).state=0:=by
 unfold pickI at h
 have h1:=List.find?_some h
 have h2:=List.mem_of_find?_eq_some h
 obtain ⟨k,hk,e⟩:=List.mem_map.1 h2
 have hk:=List.mem_range.1 hk
 refine ⟨?_,of_decide_eq_true h1⟩
 rw [<-e]
 exact Nat.mod_lt _ (by omega)
theorem Good.turn {D:Int->Int->Int->Int} (m:CfgM c) (g:Good c fl s No No T) {i a:Nat} (hi:i<nP c) (ht:T=s.tick+1) (h:pickI c s i=some a):Good c fl (turnS c D fl s i a) No No T:=by
 obtain ⟨h1,h2⟩:=zvy1 h
 unfold turnS
 have pm:=g.part i hi
 have g1:Good c fl (s.setI i {s.part i with cursor:=((a+1:Nat):Int)%((ofI c i).length:Int)}) No No T:=by
  refine g.parts ⟨?_,pm.logl,pm.log,pm.lost,pm.forb,pm.full,pm.ownl,pm.quel⟩ rfl rfl
  have e1:=Int.emod_nonneg ((a+1:Nat):Int) (show ((ofI c i).length:Int)≠0 by omega)
  have e2:=Int.emod_lt_of_pos ((a+1:Nat):Int) (show (0:Int)<((ofI c i).length:Int) by omega)
  exact ⟨e1,fun _=>e2⟩
 have hm:(ofI c i).getD a 0∈ofI c i:=by
  have:(ofI c i).getD a 0=(ofI c i)[a]:=by simp [List.getD,List.getElem?_eq_getElem h1]
  rw [this];exact List.getElem_mem h1
 exact g1.do_ m (ofI_mem.1 hm).1 h2 ht
theorem Good.turns {D:Int->Int->Int->Int} (m:CfgM c) {i:Nat} (hi:i<nP c):∀(n:Nat) {s:MS},Good c fl s No No T->T=s.tick+1->Good c fl (zha c D fl i n s) No No T/\(zha c D fl i n s).tick=s.tick
 | 0,s,g,_=>⟨g,rfl⟩
 | n+1,s,g,ht=>by
  unfold zha
  cases h:pickI c s i with
  | none=>exact ⟨g,rfl⟩
  | some a=>
   have et:(turnS c D fl s i a).tick=s.tick:=zzu1
   have:=Good.turns (D:=D) m hi n (g.turn (D:=D) m hi ht h) (by rw [et];exact ht)
   exact ⟨this.1,this.2.trans et⟩
theorem CfgM.ownerI_lt (m:CfgM c) {t:Int}:zgf c t<nP c:=by
 unfold zgf
 have h:=m.table
 have hlen:0<c.table.length:=List.length_pos_iff.2 h.1
 have hlt:t.toNat%c.table.length<c.table.length:=Nat.mod_lt _ hlen
 have:c.table.getD (t.toNat%c.table.length) 0=c.table[t.toNat%c.table.length]:=by simp [List.getD,List.getElem?_eq_getElem hlt]
 rw [this]
 have:=h.2.2 _ (List.getElem_mem hlt)
 omega
theorem ProcM.later (pm:ProcM c fl t p z x) {t':Int} (h:t<=t'):ProcM c fl t' p z x:=
 ⟨pm.st,pm.pc,pm.lnl,pm.cur,by have:=pm.tim;omega,by have:=pm.wak;omega,pm.slp,pm.dead,pm.lan,pm.recv,pm.snd,pm.lck,pm.slpi,pm.regs⟩
theorem Good.tick_ {D:Int->Int->Int->Int} (m:CfgM c) (g:Good c fl s No No s.tick):Good c fl (tickS c D fl s) No No (tickS c D fl s).tick:=by
 have g1:=(g.widen (T':=s.tick+1) (by omega)).due (i:=zgf c s.tick)
 obtain ⟨g2,e2⟩:=Good.turns (D:=D) m (m.ownerI_lt (t:=s.tick)) c.fuel.toNat g1 rfl
 have e2:(zha c D fl (zgf c s.tick) c.fuel.toNat (dueS c s (zgf c s.tick))).tick=s.tick:=e2
 have h0:=g2.tick
 unfold tickS
 dsimp only
 rw [e2]
 exact ⟨by show 0<=s.tick+1;omega,g2.part,fun q hq=>(g2.proc q hq).later (by rw [e2];show s.tick<=s.tick+1;omega),g2.own,g2.que,g2.lan,g2.in3,g2.in2⟩
theorem zzv1 {v:Int} (h:zya c s v=0):0<=v/\v.toNat<nQ c/\zbv (s.proc v.toNat)=true:=by
 unfold zya at h
 split at h
 ·cases h
 split at h
 ·cases h
 ·rename_i h1 h2
  refine ⟨by omega,by omega,?_⟩
  cases e:zbv (s.proc v.toNat)<;>simp [e] at h2 ⊢
theorem Good.inject (g:Good c fl s No No T) {q v:Int}:Good c fl (zjx c s q v).1 No No T:=by
 unfold zjx
 by_cases h:zya c s q≠0
 ·rw [if_pos h];exact g
 rw [if_neg h]
 obtain ⟨h1,h2,h3⟩:=zzv1 (Classical.not_not.1 h)
 have hln:∀l,(s.proc q.toNat).lanes[nP c]?=some l->(l.values.length:Int)<=c.lane/\Cnt l.taken/\Cnt l.dropped:=fun l hl=>by
  have:=(g.proc _ h2).lan _ l hl
  exact ⟨this.1,this.2.1,this.2.2.1⟩
 by_cases hf:fullX c (s.proc q.toNat) (nP c)=true
 ·rw [if_pos hf]
  exact g.lane h2 (i:=nP c) (f:=missL) (fun l hl=>⟨(hln l hl).1,(hln l hl).2.1,zyw (hln l hl).2.2,fun _ h=>by omega⟩) (fun l hl=>⟨rfl,fun _=>rfl⟩) false fun _ l hl=>hl
 ·rw [if_neg hf]
  have hnf:∀l,(s.proc q.toNat).lanes[nP c]?=some l->(l.values.length:Int)<c.lane:=fun l hl=>by
   unfold fullX at hf
   rw [hl] at hf
   have hf:¬decide (c.lane<=(l.values.length:Int))=true:=hf
   rw [decide_eq_true_eq] at hf
   omega
  exact g.lane h2 (i:=nP c) (f:=inL v) (fun l hl=>⟨by
   show ((l.values++ [v]).length:Int)<=_
   have:=hnf l hl
   rw [List.length_append,List.length_singleton];omega,(hln l hl).2.1,(hln l hl).2.2,fun _ h=>by omega⟩) (fun l hl=>⟨rfl,fun hne=>by
   have:=((g.lan _ h2 _ l hl).2.1 hne).2.2
   have:=hnf l hl
   omega⟩) true fun h=>by cases h
theorem zqv1 {q v:Int}:(zjx c s q v).1.tick=s.tick:=by
 unfold zjx
 split
 ·rfl
 ·split<;>rfl
theorem Good.first (m:CfgM c):Good c fl (zrt c) No No (zrt c).tick where
 tick:=Int.le_refl _
 part:=fun i hi=>by
  have h1:=m.locks
  have h2:=m.log
  refine ⟨⟨Int.le_refl _,fun h=>absurd h (Int.lt_irrefl 0)⟩,by show ((0:Nat):Int)<=c.log;omega,⟨List.Pairwise.nil,fun e he=>by cases he⟩,⟨Int.le_refl _,by show (0:Int)<=65535;omega⟩,⟨Int.le_refl _,by show (0:Int)<=65535;omega⟩,fun h=>absurd h (Int.lt_irrefl 0),?_,?_⟩
  ·show ((List.replicate c.locks.toNat (-1:Int)).length:Int)=_
   rw [List.length_replicate];omega
  ·show ((List.replicate c.locks.toNat ([]:List Int)).length:Int)=_
   rw [List.length_replicate];omega
 proc:=fun p hp=>by
  refine ⟨by show (0:Int)<=0/\(0:Int)<=6;omega,by show (0:Int)<=0/\(0:Int)<=_;omega,List.length_replicate ..,?_,by show (0:Int)<=0/\(0:Int)<=0+1099511627776;omega,by show (0:Int)<=0/\(0:Int)<=0+1099511627776;omega,.inr ⟨fun h=>absurd h (Int.lt_irrefl 0),fun h=>by have h:(0:Int)=4:=h;omega⟩,fun h=>by have h:(0:Int)=5\/(0:Int)=6:=h;omega,fun i l h=> ?_,fun h=>by have h:(0:Int)=1:=h;omega,fun h=>by have h:(0:Int)=2:=h;omega,fun h=>by have h:(0:Int)=3:=h;omega,fun h=>by have h:(0:Int)=4:=h;omega,List.length_replicate ..⟩
  ·show (0:Int)<=0/\(0:Int)<((List.replicate (nP c+1) _).length:Int)
   rw [List.length_replicate];omega
  ·have h:(List.replicate (nP c+1) (⟨[],[],0,0⟩:PLane))[i]?=some l:=h
   have hl:=List.eq_of_mem_replicate (List.mem_of_getElem? h)
   subst hl
   have:=m.lane
   refine ⟨by show ((0:Nat):Int)<=_;omega,⟨Int.le_refl _,by show (0:Int)<=65535;omega⟩,⟨Int.le_refl _,by show (0:Int)<=65535;omega⟩,fun h=> ?_⟩
   rcases h with h | h | h
   ·exact absurd rfl h
   ·exact absurd h (Int.lt_irrefl 0)
   ·exact absurd h (Int.lt_irrefl 0)
 own:=fun i hi k o h=>by
  have h:(List.replicate c.locks.toNat (-1:Int))[k]?=some o:=h
  exact .inl (List.eq_of_mem_replicate (List.mem_of_getElem? h))
 que:=fun i hi k q h=>by
  have h:(List.replicate c.locks.toNat ([]:List Int))[k]?=some q:=h
  have:=List.eq_of_mem_replicate (List.mem_of_getElem? h)
  subst this
  exact ⟨List.Pairwise.nil,fun z hz=>(by cases hz),fun h=>absurd rfl h⟩
 lan:=fun r hr i l h=>by
  have h:(List.replicate (nP c+1) (⟨[],[],0,0⟩:PLane))[i]?=some l:=h
  have:=List.eq_of_mem_replicate (List.mem_of_getElem? h)
  subst this
  exact ⟨List.Pairwise.nil,fun h=>absurd rfl h,fun w hw=>by cases hw⟩
 in3:=fun p hp _ h=>by have h:(0:Int)=3:=h;omega
 in2:=fun p hp _ h=>by have h:(0:Int)=2:=h;omega
end
end Lf
namespace Lf
open Go Go.Proofs Tryz
section
variable {c:PCfg} {fl:Nat->Nat->Bool} {s:MS} {T:Int}
theorem Good.sane (m:CfgM c) (g:Good c fl s No No T):Sane c s where
 proc:=fun p hp=>by
  have pm:=g.proc p hp
  have hl:=m.code_len (p:=p)
  have hlane:=m.lane
  have hq:=m.procs
  refine ⟨by have:=pm.pc;omega,pm.lnl,pm.cur,fun l hm=> ?_⟩
  obtain ⟨i,hi,he⟩:=List.getElem_of_mem hm
  have hg:(s.proc p).lanes[i]?=some l:=by rw [List.getElem?_eq_getElem hi,he]
  obtain ⟨a1,a2,a3,_⟩:=pm.lan i l hg
  obtain ⟨b1,b2,b3⟩:=g.lan p hp i l hg
  have hwho:∀w∈l.waiters,0<=w.proc/\w.proc<(nQ c:Int):=fun w hw=>by
   obtain ⟨c1,c2,_⟩:=b3 w hw
   omega
  have hshort:=zys (nQ c) (l.waiters.map (·.proc)) b1 fun x hx=>by
   obtain ⟨w,hw,rfl⟩:=List.mem_map.1 hx
   exact hwho w hw
  rw [List.length_map] at hshort
  exact ⟨by omega,by omega,a2,a3,b1,hwho⟩
 part:=fun i hi=>by
  have pm:=g.part i hi
  have h1:=m.log
  have h2:=m.locks
  have h3:=m.procs
  have h4:(ofI c i).length<=nQ c:=by
   have h1:(ofI c i).length<=(List.range (nQ c)).length:=List.length_filter_le ..
   rwa [List.length_range] at h1
  have hq:∀q∈(s.part i).queues,q.Nodup/\∀z∈q,0<=z/\z<(nQ c:Int):=fun q hm=>by
   obtain ⟨k,hk,he⟩:=List.getElem_of_mem hm
   have hg:(s.part i).queues[k]?=some q:=by rw [List.getElem?_eq_getElem hk,he]
   obtain ⟨b1,b2,_⟩:=g.que i hi k q hg
   exact ⟨b1,fun z hz=>by obtain ⟨c1,c2,_⟩:=b2 z hz;omega⟩
  refine ⟨⟨pm.cur.1,?_⟩,by have:=pm.logl;omega,pm.lost,pm.forb,by have:=pm.ownl;have:=pm.quel;omega,pm.quel,⟨by have:=pm.quel;omega,fun q hm=> ?_⟩,hq⟩
  ·by_cases h:0<(s.part i).cursor
   ·have:=pm.cur.2 h;omega
   ·omega
  ·have:=zys (nQ c) q (hq q hm).1 (hq q hm).2
   omega
theorem zcy2 {i t:Nat} (ht:t<(ofI c i).length) (hno:∀k,k<t->(s.proc ((ofI c i).getD (((s.part i).cursor.toNat+k)%(ofI c i).length) 0)).state≠0) (h:(s.proc ((ofI c i).getD (((s.part i).cursor.toNat+t)%(ofI c i).length) 0)).state=0):
  pickI c s i=some (((s.part i).cursor.toNat+t)%(ofI c i).length):=by
 unfold pickI
 have e:List.range (ofI c i).length=List.range t++(t::(List.range (ofI c i).length).drop (t+1)):=by
  have h1:(List.range (ofI c i).length)[t]?=some t:=List.getElem?_range ht
  obtain ⟨h2,h3⟩:=List.getElem?_eq_some_iff.1 h1
  have h4:List.take t (List.range (ofI c i).length)=List.range t:=by rw [List.take_range,Nat.min_eq_left (by omega)]
  calc List.range (ofI c i).length=(List.range (ofI c i).length).take t++(List.range (ofI c i).length).drop t:=(List.take_append_drop t _).symm
   _=_:=by rw [h4,List.drop_eq_getElem_cons h2,h3]
 rw [e,List.map_append,List.find?_append]
 have h1:List.find? (fun a=>decide ((s.proc ((ofI c i).getD a 0)).state=0)) (List.map (fun k=>((s.part i).cursor.toNat+k)%(ofI c i).length) (List.range t))=none:=by
  rw [List.find?_eq_none]
  intro a ha
  obtain ⟨k,hk,rfl⟩:=List.mem_map.1 ha
  have:=hno k (List.mem_range.1 hk)
  simpa using this
 rw [h1,Option.none_or,List.map_cons,List.find?_cons]
 rw [decide_eq_true h]
theorem zcz2 {i:Nat} (hno:∀k,k<(ofI c i).length->(s.proc ((ofI c i).getD (((s.part i).cursor.toNat+k)%(ofI c i).length) 0)).state≠0):pickI c s i=none:=by
 unfold pickI
 rw [List.find?_eq_none]
 intro a ha
 obtain ⟨k,hk,rfl⟩:=List.mem_map.1 ha
 have:=hno k (List.mem_range.1 hk)
 simpa using this
theorem zqw1 {D:Int->Int->Int->Int} {i a n:Nat} (h:pickI c s i=some a):zha c D fl i (n+1) s=zha c D fl i n (turnS c D fl s i a):=by
 have e:zha c D fl i (n+1) s=(match pickI c s i with
  | none=>s
  | some a=>zha c D fl i n (turnS c D fl s i a)):=rfl
 rw [e,h]
theorem Good.noWait (g:Good c fl s No No T) {p:Nat} (h0:(s.proc p).state=0):(∀q,q<nQ c->∀l∈(s.proc q).lanes,∀z∈l.waiters,z.proc≠(p:Int))/\∀i,i<nP c->∀q∈(s.part i).queues,(p:Int)∉q:=by
 have oo:Out s No No p:=zhm ⟨by omega,by omega⟩
 refine ⟨fun q hq l hl w hw e=> ?_,fun i hi q hq hm=> ?_⟩
 ·obtain ⟨i,hi,he⟩:=List.getElem_of_mem hl
  have hg:(s.proc q).lanes[i]?=some l:=by rw [List.getElem?_eq_getElem hi,he]
  exact ((g.lan q hq i l hg).2.2 w hw).out oo (by omega)
 ·obtain ⟨k,hk,he⟩:=List.getElem_of_mem hq
  have hg:(s.part i).queues[k]?=some q:=by rw [List.getElem?_eq_getElem hk,he]
  exact ((g.que i hi k q hg).2.1 _ hm).out oo (by omega)
end
section
variable {h0 h1 k:Hp} {K:MK} {pm:Addr} {s:MS} {tm:Nat->Nat->Int}
theorem znu1 {t:Int} {Q:Int->Hp->Prop} (m:MkOk k K) (mc:CfgM K.c) (h00:0<=t) (hq:Q (zgf K.c t:Int) k):zht prog (some K.sl) t Q k:=by
 unfold zht
 obtain ⟨sl,n,e1,e2⟩:=m.s2
 have htab:=mc.table
 have hlen:=e2.1
 have hpos:0<K.c.table.length:=List.length_pos_iff.2 htab.1
 have ld:∀ {K':Sl->Prop},K' sl->LdW none shSl k (K.sl.add 0) K':=fun {K'} hK=>⟨sl,fun j v hv=>by
  cases j with
  | zero=>
   have:=e1 0 v (by simpa [zac,Sl.v] using hv)
   rw [zjv]
   exact this
  | succ j=>simp [zac] at hv,hK⟩
 rw [if_neg (by simp;omega)]
 refine zaa (ld (zaa (ld ⟨by omega,?_⟩)))
 have em:Int.tmod t ((sl.len:Nat):Int)=((t.toNat%K.c.table.length:Nat):Int):=by
  rw [Int.tmod_eq_emod_of_nonneg h00,hlen,Int.natCast_emod]
  congr 1
  omega
 rw [em]
 have hlt:t.toNat%K.c.table.length<K.c.table.length:=Nat.mod_lt _ hpos
 refine Rs.get (sh:=shInt .i64) e2 (fun _=>rfl) (by omega) (by omega) (by omega) fun (x:Int) hx=> ?_
 rw [Int.toNat_natCast] at hx
 unfold zgf at hq
 have e5:K.c.table.getD (t.toNat%K.c.table.length) 0=x:=by simp [List.getD,hx]
 rw [e5] at hq
 have:=htab.2.2 x (List.mem_of_getElem? hx)
 rwa [show ((x.toNat:Nat):Int)=x by omega] at hq
theorem zda2 {Q:Int->Hp->Prop} (tk:zcw1) (m:MkOk h0 K) (mc:CfgM K.c) (o:Has h0 (MachA K pm s tm) k) (g:Good K.c (flC K.c) s No No s.tick) (ht:s.tick<4611686018427387904) (td:Tied K.c tm s)
  (hk:∀tm' k',Has h0 (MachA K pm (tickS K.c cpuD (flC K.c) s) tm') k'->Tied K.c tm' (tickS K.c cpuD (flC K.c) s)->Q (zgf K.c s.tick:Int) k'):zdg prog (some pm) Q k:=by
 unfold zdg
 have h00:=g.tick
 have hfuel:=mc.fuel
 have hi:=mc.ownerI_lt (t:=s.tick)
 have hprocs:=mc.procs
 refine zaa (o.rec1.ld (shf:=shPtr) K.x.slots rfl ?_)
 refine zaa (o.rec1.ld (shf:=shInt .i64) s.tick rfl ?_)
 rw [m.s1]
 refine zsr (znu1 (m.mono o.le) mc h00 ?_)
 have etick:tickS K.c cpuD (flC K.c) s=⟨(zha K.c cpuD (flC K.c) (zgf K.c s.tick) K.c.fuel.toNat (dueS K.c s (zgf K.c s.tick))).tick+1,(zha K.c cpuD (flC K.c) (zgf K.c s.tick) K.c.fuel.toNat (dueS K.c s (zgf K.c s.tick))).part,(zha K.c cpuD (flC K.c) (zgf K.c s.tick) K.c.fuel.toNat (dueS K.c s (zgf K.c s.tick))).proc⟩:=rfl
 rw [etick] at hk
 generalize zgf K.c s.tick=i at*
 obtain ⟨g1,g2⟩:=m.ptrI o hi
 refine zaa (o.rec1.ld (shf:=shSl) K.x.parts rfl ⟨g1,some (K.q i),g2,?_⟩)
 have gd:=(g.widen (T':=s.tick+1) (by omega)).due (i:=i)
 refine zpp (zfl2 m mc o (g.sane mc) hi td fun tm1 k1 o1 td1=> ?_)
 have efuel:K.x.c_Fuel=K.c.fuel:=m.cfg.fuel
 have et1:(dueS K.c s i).tick=s.tick:=rfl
 generalize dueS K.c s i=s1 at*
 refine zaa ?_
 rw [zjv]
 refine o1.rec1.ld (shf:=shInt .i64) K.x.c_Fuel rfl ?_
 rw [efuel]
 obtain ⟨gfin,tfin⟩:=Good.turns (D:=cpuD) mc hi K.c.fuel.toNat gd (by rw [et1])
 refine JoinW0.intro (fun k'=>∃tm',Has h0 (MachA K pm (zha K.c cpuD (flC K.c) i K.c.fuel.toNat s1) tm') k'/\Tied K.c tm' (zha K.c cpuD (flC K.c) i K.c.fuel.toNat s1)) ?_ ?_
 ·refine LoopW1.intro (fun (t:Int) k'=>0<=t/\t<=K.c.fuel/\∃s' tm',Has h0 (MachA K pm s' tm') k'/\Tied K.c tm' s'/\Good K.c (flC K.c) s' No No (s.tick+1)/\s'.tick=s.tick/\zha K.c cpuD (flC K.c) i (K.c.fuel-t).toNat s'=zha K.c cpuD (flC K.c) i K.c.fuel.toNat s1) (fun t _=>(K.c.fuel-t).toNat) ⟨by omega,by omega,s1,tm1,o1,td1,gd,et1,by rw [Int.sub_zero]⟩ ?_
  rintro t k' ⟨t0,t1,s',tm',o',td',g',ek',efin⟩
  by_cases h:t<K.c.fuel
  ·rw [if_pos (decide_eq_true h)]
   have hown:=(m.own i hi).mono o'.le
   have hol:=hown.1
   rw [List.length_map] at hol
   have hfew:(ofI K.c i).length<=1000:=by
    have h1:(ofI K.c i).length<=(List.range (nQ K.c)).length:=List.length_filter_le ..
    rw [List.length_range] at h1
    omega
   have en:(K.c.fuel-t).toNat=(K.c.fuel-(t+1)).toNat+1:=by omega
   rw [en] at efin
   have si:=(g'.sane mc).part i hi
   have hcur:=si.cur
   obtain ⟨h3,x,lp,wp,l3,hx,ox,_⟩:=o'.partR hi
   have ep:x.procs=K.own i:=hx.1
   have ec:x.cursor=(s'.part i).cursor:=hx.2.1
   refine zaa (ox.ld (shf:=shSl) x.procs rfl ?_)
   rw [ep]
   refine LoopW1.intro (fun (j:Int) k2=>k2=k'/\0<=j/\j<=((ofI K.c i).length:Int)/\∀kk,kk<j.toNat->(s'.proc ((ofI K.c i).getD (((s'.part i).cursor.toNat+kk)%(ofI K.c i).length) 0)).state≠0) (fun j _=>((ofI K.c i).length-j).toNat) ⟨rfl,by omega,by omega,fun kk hkk=>by omega⟩ ?_
   rintro j _ ⟨rfl,j0,j1,hno⟩
   by_cases hj:j<((ofI K.c i).length:Int)
   ·rw [if_pos (decide_eq_true (by omega))]
    refine zaa (ox.ld (shf:=shInt .i64) x.cursor rfl ?_)
    refine zaa (ox.ld (shf:=shSl) x.procs rfl ?_)
    rw [ep,ec]
    have hat:Int.tmod (IntKind.wrap .i64 ((s'.part i).cursor+j)) (((K.own i).len:Nat):Int)=((((s'.part i).cursor.toNat+j.toNat)%(ofI K.c i).length:Nat):Int):=by
     rw [wrap64 (by omega) (by omega),Int.tmod_eq_emod_of_nonneg (by omega),hol,Int.natCast_emod]
     congr 1
     omega
    rw [hat]
    have hlt:((s'.part i).cursor.toNat+j.toNat)%(ofI K.c i).length<(ofI K.c i).length:=Nat.mod_lt _ (by omega)
    refine ⟨by omega,?_⟩
    refine zaa (o'.rec1.ld (shf:=shSl) K.x.procs rfl ?_)
    refine zaa (ox.ld (shf:=shSl) x.procs rfl ?_)
    rw [ep]
    generalize ha:((s'.part i).cursor.toNat+j.toNat)%(ofI K.c i).length=a at hlt ⊢
    refine Rs.get (sh:=shInt .i64) hown (fun _=>rfl) (by omega) (by omega) (by rw [List.length_map];omega) fun (q':Int) hq'=> ?_
    rw [Int.toNat_natCast,List.getElem?_map] at hq'
    have hget:=List.getElem?_eq_getElem hlt
    rw [hget] at hq'
    have hq':((ofI K.c i)[a]:Int)=q':=Option.some.inj hq'
    have egd:(ofI K.c i).getD a 0=(ofI K.c i)[a]:=by simp [List.getD,hget]
    have hqm:(ofI K.c i)[a]∈ofI K.c i:=List.getElem_mem hlt
    rw [<-egd] at hq' hqm
    generalize hqq:(ofI K.c i).getD a 0=q at hq' hqm
    subst hq'
    obtain ⟨hq,hpq⟩:=ofI_mem.1 hqm
    obtain ⟨g5,g6⟩:=m.ptr o' hq
    refine ⟨g5,some (K.p q),g6,?_⟩
    obtain ⟨h4,z,ad,l4,hz,oz,_⟩:=o'.procR hq
    refine zaa (oz.ld (shf:=shInt .i64) z.state rfl ?_)
    have est:z.state=(s'.proc q).state:=hz.2.2.2.1
    rw [est]
    by_cases hs:(s'.proc q).state=0
    ·rw [if_pos (by rw [hs];rfl)]
     refine zaa (ox.ld (shf:=shSl) x.procs rfl ?_)
     rw [ep]
     have hcv:Int.tmod (IntKind.wrap .i64 (((a:Nat):Int)+1)) (((K.own i).len:Nat):Int)=((a+1:Nat):Int)%((ofI K.c i).length:Int):=by
      rw [wrap64 (by omega) (by omega),Int.tmod_eq_emod_of_nonneg (by omega),hol]
      congr 1
     rw [hcv]
     refine ⟨by omega,?_⟩
     have hpick:pickI K.c s' i=some a:=by
      have:=zcy2 (c:=K.c) (s:=s') (i:=i) (t:=j.toNat) (by omega) hno (by rw [ha,hqq];exact hs)
      rwa [ha] at this
     obtain ⟨h6,x6,lp6,wp6,l6,hx6,ox6,put6⟩:=o'.partR hi
     refine zaa (ox6.st (⟨x6.procs,((a+1:Nat):Int)%((ofI K.c i).length:Int),x6.log,x6.lost,x6.forbidden,x6.locks,x6.wheel⟩:S_machine_part) (by show 1+1<=7;omega) rfl fun k3 o3=> ?_)
     have o4:=put6 (⟨x6.procs,((a+1:Nat):Int)%((ofI K.c i).length:Int),x6.log,x6.lost,x6.forbidden,x6.locks,x6.wheel⟩:S_machine_part) {s'.part i with cursor:=((a+1:Nat):Int)%((ofI K.c i).length:Int)} _ ⟨hx6.1,rfl,hx6.2.2⟩ rfl rfl rfl rfl o3
     have pm':=g'.part i hi
     have gc:Good K.c (flC K.c) (s'.setI i {s'.part i with cursor:=((a+1:Nat):Int)%((ofI K.c i).length:Int)}) No No (s.tick+1):=by
      refine g'.parts ⟨⟨Int.emod_nonneg _ (by omega),fun _=>Int.emod_lt_of_pos _ (by omega)⟩,pm'.logl,pm'.log,pm'.lost,pm'.forb,pm'.full,pm'.ownl,pm'.quel⟩ rfl rfl
     obtain ⟨nw1,nw2⟩:=gc.noWait (p:=q) hs
     have gt:=g'.turn (D:=cpuD) mc hi (by rw [ek']) hpick
     have ett:(turnS K.c cpuD (flC K.c) s' i a).tick=s'.tick:=zzu1
     have eturn:turnS K.c cpuD (flC K.c) s' i a=doS K.c cpuD (flC K.c) (s'.setI i {s'.part i with cursor:=((a+1:Nat):Int)%((ofI K.c i).length:Int)}) q:=by unfold turnS;rw [hqq]
     refine zon (zcu2 tk m mc o4 (gc.sane mc) hq (by show 0<=s'.tick/\s'.tick<=_;rw [ek'];omega) (gc.proc q hq).regs nw1 (nw2 _ (by rw [hpq];exact hi)) (td'.keep rfl) fun tm5 k5 o5 td5=> ?_)
     rw [<-eturn] at o5 td5
     rw [wrap64 (by omega) (by omega)]
     refine ⟨⟨by omega,by omega,_,tm5,o5,td5,gt,by rw [ett];exact ek',?_⟩,by omega⟩
     rw [<-efin]
     exact (zqw1 hpick).symm
    ·rw [if_neg (by simpa using hs),wrap64 (by omega) (by omega)]
     refine ⟨⟨rfl,by omega,by omega,fun kk hkk=> ?_⟩,by omega⟩
     by_cases e:kk=j.toNat
     ·subst e;rw [ha,hqq];exact hs
     ·exact hno kk (by omega)
   ·rw [if_neg (fun e=>hj (by have:=of_decide_eq_true e;omega))]
    have hnone:=zcz2 (c:=K.c) (s:=s') (i:=i) fun kk hkk=>hno kk (by omega)
    have e2:zha K.c cpuD (flC K.c) i ((K.c.fuel-(t+1)).toNat+1) s'=s':=by
     unfold zha;rw [hnone]
    rw [e2] at efin
    rw [<-efin]
    exact ⟨tm',o',td'⟩
  ·rw [if_neg (fun e=>h (of_decide_eq_true e))]
   have e0:(K.c.fuel-t).toNat=0:=by omega
   rw [e0] at efin
   have efin:s'=_:=efin
   rw [<-efin]
   exact ⟨tm',o',td'⟩
 ·rintro k2 ⟨tm2,o2,td2⟩
  rw [et1] at tfin
  generalize zha K.c cpuD (flC K.c) i K.c.fuel.toNat s1=s2 at*
  refine zaa (o2.rec1.ld (shf:=shInt .i64) s2.tick rfl ?_)
  obtain ⟨h7,l7,o7,_,put7⟩:=o2.fst
  rw [wrap64 (by omega) (by omega)]
  refine zaa (o7.st (tickX K.x (s2.tick+1)) (by show 9+1<=12;omega) rfl fun k3 o3=> ?_)
  exact hk tm2 k3 (put7 _ _ o3) td2
end
section
variable {c:PCfg} {fl:Nat->Nat->Bool} {s:MS} {T:Int}
theorem list_part {i:Nat} {x:PPart}:(s.list c).parts[i]?=some x↔i<nP c/\x=s.part i:=by
 show ((List.range (nP c)).map s.part)[i]?=some x↔_
 rw [List.getElem?_map]
 by_cases h:i<nP c
 ·rw [List.getElem?_range h]
  constructor
  ·intro e;exact ⟨h,(Option.some.inj e).symm⟩
  ·rintro ⟨_,rfl⟩;rfl
 ·rw [List.getElem?_eq_none (by rw [List.length_range];omega)]
  constructor
  ·intro e;cases e
  ·intro e;exact absurd e.1 h
theorem list_proc {i:Nat} {x:PProcess}:(s.list c).procs[i]?=some x↔i<nQ c/\x=s.proc i:=by
 show ((List.range (nQ c)).map s.proc)[i]?=some x↔_
 rw [List.getElem?_map]
 by_cases h:i<nQ c
 ·rw [List.getElem?_range h]
  constructor
  ·intro e;exact ⟨h,(Option.some.inj e).symm⟩
  ·rintro ⟨_,rfl⟩;rfl
 ·rw [List.getElem?_eq_none (by rw [List.length_range];omega)]
  constructor
  ·intro e;cases e
  ·intro e;exact absurd e.1 h
theorem zho (m:CfgM c) {p:Nat} (hp:p<nQ c):∃y,c.procs[p]?=some y/\y.part=(pOf c p:Int)/\y.code=zbz c p:=by
 have h:=List.getElem?_eq_getElem (show p<c.procs.length from hp)
 refine ⟨_,h,?_,?_⟩
 ·have:=m.part _ (List.mem_of_getElem? h)
  unfold pOf
  rw [h]
  simp
  omega
 ·unfold zbz
  rw [h]
  rfl
theorem zfz1 {y:PProc} {p:Nat} {x:PProcess} (h:y.code=zbz c p):insP y x.pc=insX c p x:=by unfold insP insX insL;rw [h]
theorem zlr (m:CfgM c) {p:Int} {i:Nat}:ofP c p i↔0<=p/\p.toNat<nQ c/\pOf c p.toNat=i:=by
 unfold ofP
 constructor
 ·rintro ⟨h1,y,h2,h3⟩
  have hp:p.toNat<nQ c:=(List.getElem?_eq_some_iff.1 h2).1
  obtain ⟨y',e1,e2,_⟩:=zho m hp
  rw [h2] at e1
  cases e1
  exact ⟨h1,hp,by omega⟩
 ·rintro ⟨h1,h2,h3⟩
  obtain ⟨y',e1,e2,_⟩:=zho m h2
  exact ⟨h1,y',e1,by rw [e2,h3]⟩
theorem zzw1 (m:CfgM c) {i:Nat}:manyP c i=(ofI c i).length:=by
 have e:c.procs=(List.range c.procs.length).map fun q=>c.procs.getD q ⟨0,[]⟩:=by
  refine List.ext_getElem? fun j=> ?_
  rw [List.getElem?_map]
  by_cases h:j<c.procs.length
  ·rw [List.getElem?_range h,List.getElem?_eq_getElem h]
   simp [List.getD,List.getElem?_eq_getElem h]
  ·rw [List.getElem?_eq_none (by omega),List.getElem?_eq_none (by rw [List.length_range];omega)]
   rfl
 unfold manyP ofI
 rw [e,List.filter_map,List.length_map]
 congr 1
 refine List.filter_congr fun q hq=> ?_
 have hq:q<nQ c:=List.mem_range.1 hq
 obtain ⟨y,e1,e2,_⟩:=zho m hq
 have e3:c.procs.getD q ⟨0,[]⟩=y:=by simp [List.getD,e1]
 show decide ((c.procs.getD q ⟨0,[]⟩).part=(i:Int))=decide (pOf c q=i)
 rw [e3,e2]
 by_cases h:pOf c q=i
 ·rw [decide_eq_true h,decide_eq_true (by omega)]
 ·rw [decide_eq_false h,decide_eq_false (by omega)]
theorem zdu2 (m:CfgM c) {i:Nat} {st:zcf} (ht:st.tick=T):∀ {l:List zvk} {last:Int},l.Pairwise (fun a b=>a.tick<=b.tick)->(∀e∈l,last<=e.tick/\e.tick<T/\0<=e.proc/\e.proc.toNat<nQ c/\pOf c e.proc.toNat=i)->LogG c st i last l
 | [],_,_,_=>trivial
 | e::r,last,h,hh=>by
  obtain ⟨h1,h2⟩:=List.pairwise_cons.1 h
  obtain ⟨a1,a2,a3⟩:=hh e (List.mem_cons_self ..)
  refine ⟨a1,by rw [ht];exact a2,(zlr m).2 a3,zdu2 m ht h2 fun e' he'=>⟨h1 e' he',(hh e' (List.mem_cons_of_mem _ he')).2⟩⟩
theorem znv1 {l:List Int} {z:Int} (nd:l.Nodup) (h:z∈l):l.countP (fun y=>decide (y=z))=1:=by
 induction l with
 | nil=>cases h
 | cons a l ih=>
  rw [List.nodup_cons] at nd
  rw [List.countP_cons]
  rcases List.mem_cons.1 h with rfl | h
  ·have:l.countP (fun y=>decide (y=z))=0:=by
    rw [List.countP_eq_zero]
    intro y hy
    simp
    exact fun e=>nd.1 (e▸hy)
   rw [this]
   simp
  ·rw [ih nd.2 h]
   have:a≠z:=fun e=>nd.1 (e▸h)
   simp [this]
theorem zme {l:List Int} {z:Int} (h:z∉l):l.countP (fun y=>decide (y=z))=0:=by
 rw [List.countP_eq_zero]
 intro y hy
 simp
 exact fun e=>h (e▸hy)
theorem zga1 {p:Int} {x:PPart} (h:∀q∈x.queues,p∉q):cntQ p x=0:=by
 unfold cntQ
 rw [List.sum_eq_zero_iff_forall_eq_nat]
 intro y hy
 obtain ⟨q,hq,rfl⟩:=List.mem_map.1 hy
 exact zme (h q hq)
theorem zgb1 {p:Int} {l:PLane}:cntW p l=(l.waiters.map (·.proc)).countP fun y=>decide (y=p):=by
 unfold cntW
 rw [List.countP_map]
 rfl
theorem zgc1 {p:Int} {x:PProcess} (h:∀l∈x.lanes,∀w∈l.waiters,w.proc≠p):cntL p x=0:=by
 unfold cntL
 rw [List.sum_eq_zero_iff_forall_eq_nat]
 intro y hy
 obtain ⟨l,hl,rfl⟩:=List.mem_map.1 hy
 rw [zgb1]
 refine zme fun hm=> ?_
 obtain ⟨w,hw,e⟩:=List.mem_map.1 hm
 exact h l hl w hw e
end
section
variable {c:PCfg} {fl:Nat->Nat->Bool} {s:MS} {T:Int}
theorem znw1 {i:Nat} (h:i<nP c):(s.list c).parts[i]?=some (s.part i):=list_part.2 ⟨h,rfl⟩
theorem zza {i:Nat} (h:i<nQ c):(s.list c).procs[i]?=some (s.proc i):=list_proc.2 ⟨h,rfl⟩
theorem zfn2 {p:Int} (h:p.toNat<nQ c) {q:PProcess->Prop} (hq:q (s.proc p.toNat)):stP (s.list c) p q:=⟨_,zza h,hq⟩
theorem at_of (m:CfgM c) {p:Int} (h:p.toNat<nQ c) {n:PIns} (hn:insX c p.toNat (s.proc p.toNat)=some n) {q:PProcess->PIns->Prop} (hq:q (s.proc p.toNat) n):atP c (s.list c) p q:=by
 obtain ⟨y,e1,e2,e3⟩:=zho m h
 exact ⟨_,y,n,zza h,e1,by rw [zfz1 e3];exact hn,hq⟩
theorem zzx1 {r:List Int} {i v:Int} (hr:r.length=8) (hi:0<=i/\i<8) (h:regR r i=v):r[i.toNat]?=some v:=by
 have hl:i.toNat<r.length:=by omega
 rw [List.getElem?_eq_getElem hl,<-h]
 unfold regR
 simp [List.getD,List.getElem?_eq_getElem hl]
theorem Good.waits (m:CfgM c) (g:Good c fl s No No T):zdn2 c (s.list c):=by
 refine ⟨fun i x hx k q hq p hp=> ?_,fun r x y hx hy i l hl w hw=> ?_,fun p x hx=> ?_⟩
 ·obtain ⟨hi,rfl⟩:=list_part.1 hx
  obtain ⟨b1,b2,b3⟩:=g.que i hi k q hq
  obtain ⟨a1,a2,a3,_,a5⟩:=b2 p hp
  obtain ⟨a5,n,a6,a7,a8⟩:=a5.resolve_left (fun h=>h)
  obtain ⟨o,e1,e2,e3⟩:=b3 (List.ne_nil_of_mem hp)
  refine ⟨(zlr m).2 ⟨a1,a2,a3⟩,at_of m a2 a6 ⟨a5,a8⟩,o,e1,?_,fun e=>e3 (e▸hp)⟩
  rcases g.own i hi k o e1 with h | h
  ·exact absurd h e2
  ·exact h.1
 ·obtain ⟨hr,rfl⟩:=list_proc.1 hx
  obtain ⟨y',f1,f2,f3⟩:=zho m hr
  rw [hy] at f1
  cases f1
  obtain ⟨b1,b2,b3⟩:=g.lan r hr i l hl
  obtain ⟨c1,c2,c3⟩:=b2 (List.ne_nil_of_mem hw)
  obtain ⟨a1,a2,a3,_,a5⟩:=b3 w hw
  obtain ⟨a5,n,a6,a7,a8,a9⟩:=a5.resolve_left (fun h=>h)
  have hlv:=livesB_iff.1 (c2.resolve_right (fun h=>h))
  have hregs:=(g.proc _ a2).regs
  have hws:=zvr1 (m.ins a6).1 a7
  exact ⟨by rw [f2,c1],(zlr m).2 ⟨a1,a2,a3⟩,hlv,c3,at_of m a2 a6 ⟨a5,a7,zzx1 hregs hws.2.1 a8,zzx1 hregs hws.2.2 a9⟩⟩
 ·obtain ⟨hp,rfl⟩:=list_proc.1 hx
  have hq1:((s.list c).parts.map (cntQ (p:Int))).sum=if (s.proc p).state=3 then 1 else 0:=by
   by_cases h3:(s.proc p).state=3
   ·rw [if_pos h3]
    obtain ⟨k,q,e1,e2⟩:=g.in3 p hp (fun h=>h) h3
    have hi:=m.pOf_lt (p:=p)
    rw [zxz (cntQ (p:Int)) _ (pOf c p) fun j x hx hne=> ?_,znw1 hi]
    ·show cntQ (p:Int) (s.part (pOf c p))=1
     unfold cntQ
     rw [zxz _ _ k fun j q' hq' hne=> ?_,e1]
     ·exact znv1 (g.que _ hi k q e1).1 e2
     ·refine zme fun hm=> ?_
      obtain ⟨_,_,_,_,a5⟩:=(g.que _ hi j q' hq').2.1 _ hm
      obtain ⟨_,n1,a6,_,a8⟩:=a5.resolve_left (fun h=>h)
      obtain ⟨_,_,_,_,b5⟩:=(g.que _ hi k q e1).2.1 _ e2
      obtain ⟨_,n2,b6,_,b8⟩:=b5.resolve_left (fun h=>h)
      rw [a6] at b6
      cases b6
      omega
    ·obtain ⟨hj,rfl⟩:=list_part.1 hx
     refine zga1 fun q' hq' hm=> ?_
     obtain ⟨k',hk',he⟩:=List.getElem_of_mem hq'
     have hg:(s.part j).queues[k']?=some q':=by rw [List.getElem?_eq_getElem hk',he]
     have:=((g.que j hj k' q' hg).2.1 _ hm).2.2.1
     rw [Int.toNat_natCast] at this
     exact hne this.symm
   ·rw [if_neg h3,List.sum_eq_zero_iff_forall_eq_nat]
    intro y hy
    obtain ⟨x,hx,rfl⟩:=List.mem_map.1 hy
    obtain ⟨j,hj,he⟩:=List.getElem_of_mem hx
    have hgx:(s.list c).parts[j]?=some x:=by rw [List.getElem?_eq_getElem hj,he]
    obtain ⟨hj,rfl⟩:=list_part.1 hgx
    refine zga1 fun q' hq' hm=> ?_
    obtain ⟨k',hk',he⟩:=List.getElem_of_mem hq'
    have hg:(s.part j).queues[k']?=some q':=by rw [List.getElem?_eq_getElem hk',he]
    obtain ⟨_,_,_,_,a5⟩:=(g.que j hj k' q' hg).2.1 _ hm
    have:=(a5.resolve_left (fun h=>h)).1
    rw [Int.toNat_natCast] at this
    exact h3 this
  have hq2:((s.list c).procs.map (cntL (p:Int))).sum=if (s.proc p).state=2 then 1 else 0:=by
   by_cases h2:(s.proc p).state=2
   ·rw [if_pos h2]
    obtain ⟨r,hr,l,e1,w,e2,e3⟩:=g.in2 p hp (fun h=>h) h2
    obtain ⟨d1,d2,d3⟩:=g.lan r hr _ l e1
    obtain ⟨_,_,_,_,b5⟩:=d3 w e2
    obtain ⟨_,n2,b6,_,b8,_⟩:=b5.resolve_left (fun h=>h)
    rw [e3,Int.toNat_natCast] at b6 b8
    rw [zxz (cntL (p:Int)) _ r fun j x hx hne=> ?_,zza hr]
    ·show cntL (p:Int) (s.proc r)=1
     unfold cntL
     rw [zxz _ _ (pOf c p) fun j l' hl' hne=> ?_,e1]
     ·show cntW (p:Int) l=1
      rw [zgb1]
      exact znv1 d1 (List.mem_map.2 ⟨w,e2,e3⟩)
     ·rw [zgb1]
      refine zme fun hm=> ?_
      obtain ⟨w',hw',e'⟩:=List.mem_map.1 hm
      have:=((g.lan r hr j l' hl').2.2 w' hw').2.2.1
      rw [e',Int.toNat_natCast] at this
      exact hne this.symm
    ·obtain ⟨hj,rfl⟩:=list_proc.1 hx
     refine zgc1 fun l' hl' w' hw' e'=> ?_
     obtain ⟨k',hk',he⟩:=List.getElem_of_mem hl'
     have hg:(s.proc j).lanes[k']?=some l':=by rw [List.getElem?_eq_getElem hk',he]
     obtain ⟨_,_,_,_,a5⟩:=(g.lan j hj k' l' hg).2.2 w' hw'
     obtain ⟨_,n1,a6,_,a8,_⟩:=a5.resolve_left (fun h=>h)
     rw [e',Int.toNat_natCast] at a6 a8
     rw [a6] at b6
     cases b6
     omega
   ·rw [if_neg h2,List.sum_eq_zero_iff_forall_eq_nat]
    intro y hy
    obtain ⟨x,hx,rfl⟩:=List.mem_map.1 hy
    obtain ⟨j,hj,he⟩:=List.getElem_of_mem hx
    have hgx:(s.list c).procs[j]?=some x:=by rw [List.getElem?_eq_getElem hj,he]
    obtain ⟨hj,rfl⟩:=list_proc.1 hgx
    refine zgc1 fun l' hl' w' hw' e'=> ?_
    obtain ⟨k',hk',he⟩:=List.getElem_of_mem hl'
    have hg:(s.proc j).lanes[k']?=some l':=by rw [List.getElem?_eq_getElem hk',he]
    obtain ⟨_,_,_,_,a5⟩:=(g.lan j hj k' l' hg).2.2 w' hw'
    have:=(a5.resolve_left (fun h=>h)).1
    rw [e',Int.toNat_natCast] at this
    exact h2 this
  rw [hq1,hq2]
  by_cases h3:(s.proc p).state=3
  ·rw [if_pos h3,if_neg (by omega),if_pos (.inl h3)]
  ·rw [if_neg h3]
   by_cases h2:(s.proc p).state=2
   ·rw [if_pos h2,if_pos (.inr h2)]
   ·rw [if_neg h2,if_neg (by omega)]
theorem Good.may (m:CfgM c) (g:Good c fl s No No s.tick) (ht:s.tick<=4611686018427387904):MayG c (s.list c) fun i y=>fl i y.toNat=true:=by
 refine ⟨⟨⟨g.tick,ht⟩,?_,?_⟩,fun i x hx=> ?_,fun p x y hx hy=> ?_,g.waits m⟩
 ·show ((List.range (nP c)).map s.part).length=_
  rw [List.length_map,List.length_range]
  rfl
 ·show ((List.range (nQ c)).map s.proc).length=_
  rw [List.length_map,List.length_range]
  rfl
 ·obtain ⟨hi,rfl⟩:=list_part.1 hx
  have pm:=g.part i hi
  refine ⟨⟨pm.cur.1,by rw [zzw1 m];exact pm.cur.2,pm.logl⟩,zdu2 m rfl pm.log.1 fun e he=>pm.log.2 e he,pm.lost,pm.forb,pm.full,pm.ownl,pm.quel,fun p hp hne=> ?_⟩
  obtain ⟨k,hk,he⟩:=List.getElem_of_mem hp
  have hg:(s.part i).owners[k]?=some p:=by rw [List.getElem?_eq_getElem hk,he]
  rcases g.own i hi k p hg with h | ⟨a1,a2,a3,a4⟩
  ·exact absurd h hne
  ·exact ⟨(zlr m).2 ⟨a1,a2,a3⟩,zfn2 a2 (livesB_iff.1 (a4.resolve_right (fun h=>h)))⟩
 ·obtain ⟨hp,rfl⟩:=list_proc.1 hx
  obtain ⟨y',f1,f2,f3⟩:=zho m hp
  rw [hy] at f1
  cases f1
  have pm:=g.proc p hp
  have ei:insP y (s.proc p).pc=insX c p (s.proc p):=zfz1 f3
  refine ⟨pm.st,by rw [f3];exact pm.pc,pm.lnl,pm.cur,pm.tim,pm.wak,pm.slp.resolve_left (fun h=>h),fun h=>⟨(pm.dead h).1.resolve_left (fun h=>h),(pm.dead h).2⟩,fun i l hl=> ?_,fun h=> ?_,fun h=> ?_,fun h=> ?_,fun h=> ?_⟩
  ·obtain ⟨a1,a2,a3,a4⟩:=pm.lan i l hl
   refine ⟨a1,a2,a3,fun hu hi=> ?_⟩
   rw [f2]
   show fl i ((pOf c p:Nat):Int).toNat=true
   rw [Int.toNat_natCast]
   exact a4 hu hi
  ·rw [ei];exact pm.recv h
  ·rw [ei];exact pm.snd h
  ·rw [ei];exact pm.lck h
  ·rw [ei];exact pm.slpi h
end
abbrev PRow (l:Sl) (xs:List PPart):Asn:=AsA (RowsO.ok (sh:=sh_api_Part) (sz:=6) znc1) l xs
abbrev XRow (l:Sl) (xs:List PProcess):Asn:=AsA (RowsO.ok (sh:=sh_api_Process) (sz:=15) ztt) l xs
section
variable {h0 h1 k:Hp} {K:MK} {pm:Addr} {s:MS} {tm:Nat->Nat->Int}
def toE (e:zvk):S_api_Entry:=⟨e.tick,e.proc,e.value⟩
theorem znx1 {i:Nat} {Ps:Sl} {ps:List PPart} {rest:Sl->Hp->Prop} (mc:CfgM K.c) (o:Has h0 ((MachA K pm s tm).star (PRow Ps ps)) k) (sa:Sane K.c s) (hi:i<nP K.c) (hps:ps.length<=1000)
  (hk:∀l' k',Has h0 ((MachA K pm s tm).star (PRow l' (ps++ [s.part i]))) k'->rest l' k'):
 NilW none (some (K.q i)) fun p2=>
 LdW none shPtr k (Addr.add p2 5) fun x3=>
 Call2 prog zel [(.pointer x3)] shSl shSl (fun r r1 h2=>
 NilW none (some (K.q i)) fun p3=>
 LdW none (shInt .i64) h2 (Addr.add p3 1) fun x4=>
 NilW none (some (K.q i)) fun p4=>
 LdW none shSl h2 (Addr.add p4 2) fun x5=>
 NilW none (some (K.q i)) fun p5=>
 LdW none (shInt .i64) h2 (Addr.add p5 3) fun x6=>
 NilW none (some (K.q i)) fun p6=>
 LdW none (shInt .i64) h2 (Addr.add p6 4) fun x7=>
 CallT prog zat [x5.v] shSl (fun r2 h3=>
 ((True/\((LdIs h3 (Addr.add p3 1) [(.int .i64 x4)])/\((LdIs h3 (Addr.add p5 3) [(.int .i64 x6)])/\((LdIs h3 (Addr.add p6 4) [(.int .i64 x7)])/\True))))/\NewW [(.int .i64 x4),r2.v,(.int .i64 x6),(.int .i64 x7),r.v,r1.v] (fun a h4=>
 ((True/\True)/\zap 6 96 [(.int .i64 (0:Int)),(.slice none 0 0),(.int .i64 (0:Int)),(.int .i64 (0:Int)),(.slice none 0 0),(.slice none 0 0)] ⟨Ps.base,Ps.len,Ps.cap⟩ ⟨(some a),1,1⟩ (fun r3 h5=>
 rest r3 h5) h4)) h3)) h2) k:=by
 have si:=sa.part i hi
 obtain ⟨hA,lA,oM,_,putM⟩:=o.fst
 obtain ⟨h3,x4,lp4,wp4,l4,hx4,ox4,ol,putl⟩:=oM.partL hi
 have el:x4.locks=some lp4:=hx4.2.2.2.2.1
 refine zaa (ox4.ld (shf:=shPtr) x4.locks rfl ?_)
 rw [el]
 refine zsq (zvo1 ol ⟨by have:=si.few.1;omega,si.few.2⟩ si.ownl fun ro rq k2 o2=> ?_)
 have o3:Has hA ((MachA K pm s tm).star ((VRow ro (s.part i).owners).star (QRow rq (s.part i).queues))) k2:=o2.carry fun k' o'=>by
  have h4:=putl _ _ k' o'
  have e:s.setI i {s.part i with owners:=(s.part i).owners,queues:=(s.part i).queues}=s:=zfs1
  rwa [e] at h4
 obtain ⟨hB,lB,oM3,⟨F3,fr3,ff3⟩,putB⟩:=o3.fst
 obtain ⟨h6,x,lp,wp,l6,hx,ox,olog,_⟩:=oM3.partG hi
 refine zaa (ox.ld (shf:=shInt .i64) x.cursor rfl ?_)
 refine zaa (ox.ld (shf:=shSl) x.log rfl ?_)
 refine zaa (ox.ld (shf:=shInt .i64) x.lost rfl ?_)
 refine zaa (ox.ld (shf:=shInt .i64) x.forbidden rfl ?_)
 refine zcz ?_
 unfold zbu
 have hlogl:=si.logl
 refine zhl (tb_ok.und 63 ty63 rfl) (olog.srw (fun _=>rfl)) (by decide) (fun _=>rfl) (fun _=>rfl) rfl ⟨by omega,by omega⟩ fun vl k3 hl3 n3=> ?_
 have oxk:=ox.grow hl3
 refine ⟨⟨trivial,oxk.ldis (n:=1) rfl,oxk.ldis (n:=1) rfl,oxk.ldis (n:=1) rfl,trivial⟩,?_⟩
 have b1:Has k2 (AsA (RowsO.ok (sh:=sh_api_Entry) (sz:=3) (PureO.ok fun x p=>zni x=p)) vl (s.part i).log) k3:=n3.pureRows (f:=toE) (fun _=>rfl) fun _=>rfl
 have oAll:=o3.beside b1
 have oRow:Has hA ((MachA K pm s tm).star (AsA znc1 (⟨x.cursor,vl,x.lost,x.forbidden,ro,rq⟩:S_api_Part) (s.part i))) k3:=by
  obtain ⟨hC,lC,oM4,_,_⟩:=oAll.assoc.fst
  refine oAll.assoc.map fun kk F hF=> ?_
  refine zpb (fun _ h=>h) (fun F' h=> ?_) hF
  obtain ⟨F1,F2,e,d,⟨F4,F5,e',d',⟨B2,r2,nd2,e2⟩,⟨B3,r3,nd3,e3⟩⟩,⟨B1,r1,nd1,e1⟩⟩:=h
  refine ⟨B1++(B2++B3),⟨B1,B2,B3,rfl,r1,r2,r3,hx.2.1,hx.2.2.1,hx.2.2.2.1⟩,?_,fun b=> ?_⟩
  ·rw [List.nodup_append,List.nodup_append]
   refine ⟨nd1,⟨nd2,nd3,fun a ha b hb hab=> ?_⟩,fun a ha b hb hab=> ?_⟩
   ·subst hab;exact d' a ((e2 a).2 ha) ((e3 a).2 hb)
   ·subst hab
    rcases List.mem_append.1 hb with hb | hb
    ·exact d a ((e' a).2 (.inl ((e2 a).2 hb))) ((e1 a).2 ha)
    ·exact d a ((e' a).2 (.inr ((e3 a).2 hb))) ((e1 a).2 ha)
  ·rw [e b,e' b,e1 b,e2 b,e3 b,List.mem_append,List.mem_append]
   constructor
   ·rintro ((h | h) | h)
    ·exact .inr (.inl h)
    ·exact .inr (.inr h)
    ·exact .inl h
   ·rintro (h | h | h)
    ·exact .inr h
    ·exact .inl (.inl h)
    ·exact .inl (.inr h)
 have oF:=(putM _ _ oRow).assoc
 obtain ⟨hD,lD,oD,_,putD⟩:=oF.snd
 have key:=oD.comm.row (cs:=[(.int .i64 x.cursor),vl.v,(.int .i64 x.lost),(.int .i64 x.forbidden),ro.v,rq.v]) (zero:=[(.int .i64 (0:Int)),(.slice none 0 0),(.int .i64 (0:Int)),(.int .i64 (0:Int)),(.slice none 0 0),(.slice none 0 0)]) (bytes:=96) rfl (fun _=>rfl) (fun _=>rfl) rfl ⟨by omega,by omega⟩ (K:=rest) fun l' k' o'=>hk l' k' (putD _ _ o')
 exact fun b t hb=>⟨⟨trivial,trivial⟩,key b t hb⟩
theorem zny1 {c:PCfg} {p:Nat} (hp:p<nQ c):zfw c s (pOf c p) (2*p)=(s.proc p).timer:=by
 unfold zfw
 rw [show 2*p / 2=p by omega,if_pos ⟨hp,rfl⟩,if_pos (by omega)]
theorem zqx1 {c:PCfg} {p:Nat} (hp:p<nQ c):zfw c s (pOf c p) (2*p+1)=(s.proc p).wake:=by
 unfold zfw
 rw [show (2*p+1) / 2=p by omega,if_pos ⟨hp,rfl⟩,if_neg (by omega)]
theorem znz1 {p:Nat} {Ps:Sl} {ps:List PProcess} {rest:Sl->Hp->Prop} (m:MkOk h0 K) (mc:CfgM K.c) (o:Has h0 ((MachA K pm s tm).star (XRow Ps ps)) k) (sa:Sane K.c s) (td:Tied K.c tm s) (hp:p<nQ K.c) (hps:ps.length<=1000)
  (hk:∀l' k',Has h0 ((MachA K pm s tm).star (XRow l' (ps++ [s.proc p]))) k'->rest l' k'):
 NilW none (some (K.p p)) fun p3=>
 LdW none shPtr k (Addr.add p3 14) fun x4=>
 Call2 prog zgs [(.pointer x4)] shSl (shInt .i64) (fun r r1 h3=>
 NilW none (some pm) fun p4=>
 LdW none shSl h3 (Addr.add p4 10) fun x5=>
 NilW none (some (K.p p)) fun p5=>
 LdW none (shInt .i64) h3 (Addr.add p5 1) fun x6=>
 ((InB x5.base x5.len x6)/\LdW none shPtr h3 (sat x5.base 1 x6) fun x7=>
 NilW none x7 fun p6=>
 LdW none shPtr h3 (Addr.add p6 6) fun x8=>
 CallT prog zbh [(.int .i64 (p:Int))] (shInt .i64) (fun r2 h4=>
 (((LdIs h4 (Addr.add p4 10) [x5.v])/\((LdIs h4 (Addr.add p5 1) [(.int .i64 x6)])/\((LdIs h4 (sat x5.base 1 x6) [(.pointer x7)])/\((LdIs h4 (Addr.add p6 6) [(.pointer x8)])/\True))))/\Call2 prog zdd [(.pointer x8),(.int .i64 r2)] (shInt .i64) zae (fun r3 r4 h5=>
 NilW none (some pm) fun p7=>
 LdW none shSl h5 (Addr.add p7 10) fun x9=>
 NilW none (some (K.p p)) fun p8=>
 LdW none (shInt .i64) h5 (Addr.add p8 1) fun x10=>
 ((InB x9.base x9.len x10)/\LdW none shPtr h5 (sat x9.base 1 x10) fun x11=>
 NilW none x11 fun p9=>
 LdW none shPtr h5 (Addr.add p9 6) fun x12=>
 CallT prog zcb [(.int .i64 (p:Int))] (shInt .i64) (fun r5 h6=>
 (((LdIs h6 (Addr.add p7 10) [x9.v])/\((LdIs h6 (Addr.add p8 1) [(.int .i64 x10)])/\((LdIs h6 (sat x9.base 1 x10) [(.pointer x11)])/\((LdIs h6 (Addr.add p9 6) [(.pointer x12)])/\True))))/\Call2 prog zdd [(.pointer x12),(.int .i64 r5)] (shInt .i64) zae (fun r6 r7 h7=>
 NilW none (some (K.p p)) fun p10=>
 LdW none (shInt .i64) h7 (Addr.add p10 3) fun x13=>
 NilW none (some (K.p p)) fun p11=>
 LdW none (shInt .i64) h7 (Addr.add (Addr.add p11 4) 0) fun x14=>
 NilW none (some (K.p p)) fun p12=>
 LdW none zdr h7 (Addr.add (Addr.add p12 4) 1) fun x15=>
 NilW none (some (K.p p)) fun p13=>
 LdW none zae h7 (Addr.add p13 13) fun x16=>
 NewW [(.int .i64 x13),(.int .i64 x14),(.int .i64 x15.a0),(.int .i64 x15.a1),(.int .i64 x15.a2),(.int .i64 x15.a3),(.int .i64 x15.a4),(.int .i64 x15.a5),(.int .i64 x15.a6),(.int .i64 x15.a7),(.int .i64 r1),(.int .i64 r3),(.bool x16),(.int .i64 r6),r.v] (fun a h8=>
 ((True/\True)/\zap 15 136 [(.int .i64 (0:Int)),(.int .i64 (0:Int)),(.int .i64 (0:Int)),(.int .i64 (0:Int)),(.int .i64 (0:Int)),(.int .i64 (0:Int)),(.int .i64 (0:Int)),(.int .i64 (0:Int)),(.int .i64 (0:Int)),(.int .i64 (0:Int)),(.int .i64 (0:Int)),(.int .i64 (0:Int)),(.bool false),(.int .i64 (0:Int)),(.slice none 0 0)] ⟨Ps.base,Ps.len,Ps.cap⟩ ⟨(some a),1,1⟩ (fun r8 h9=>
 rest r8 h9) h8)) h7) h6)) h5)) h4)) h3)) k:=by
 have hi:pOf K.c p<nP K.c:=mc.pOf_lt
 have hprocs:=mc.procs
 have hparts:=mc.parts
 have sp:=sa.proc p hp
 have hlen:=sp.len
 obtain ⟨hA,lA,oM,_,putM⟩:=o.fst
 obtain ⟨h1,z,a,l1,hz,oz,oq,put⟩:=oM.procQ hp
 have epo:z.post=some a:=hz.2.2.2.2.2.2
 refine zaa (oz.ld (shf:=shPtr) z.post rfl ?_)
 rw [epo]
 refine zuv (zyt1 oq ⟨by omega,fun l hl=>⟨(sp.lan l hl).waiters,by have:=(sp.lan l hl).values;omega⟩⟩ fun rl k2 o2=> ?_)
 have o3:Has hA ((MachA K pm s tm).star (LRow rl (s.proc p).lanes)) k2:=o2.carry fun k' o'=>by
  have h4:=put _ _ k' o'
  have e:s.setP p {s.proc p with lanes:=(s.proc p).lanes,cursor:=(s.proc p).cursor}=s:=zno1
  rwa [e] at h4
 obtain ⟨hB,lB,oB,_,_⟩:=o3.fst
 have mB:=m.mono (Hp.le_trans lA lB)
 obtain ⟨h2,z2,a2,l2,hz2,oz2,_⟩:=oB.procR hp
 obtain ⟨g1,g2⟩:=mB.ptrI oB hi
 obtain ⟨h7,x7,lp7,wp7,l7,hx7,ox7,ow,_⟩:=oB.partW hi
 have ewh:x7.wheel=some wp7:=hx7.2.2.2.2.2
 have epa:z2.part=(pOf K.c p:Int):=hz2.2.1
 refine zaa (oB.rec1.ld (shf:=shSl) K.x.parts rfl ?_)
 refine zaa (oz2.ld (shf:=shInt .i64) z2.part rfl ?_)
 have ldp:=oz2.ldis (off:=1) (n:=1) (vs:=[.int .i64 z2.part]) rfl
 rw [epa] at ldp ⊢
 refine ⟨g1,some (K.q (pOf K.c p)),g2,?_⟩
 refine zaa (ox7.ld (shf:=shPtr) x7.wheel rfl ?_)
 refine zdp (zcx1 (by omega) ?_)
 refine ⟨⟨oB.rec1.ldis (n:=1) rfl,ldp,g2,ox7.ldis (n:=1) rfl,trivial⟩,?_⟩
 rw [ewh]
 refine zlt (zsy1 ow fun b1=> ?_)
 refine zaa (oB.rec1.ld (shf:=shSl) K.x.parts rfl ?_)
 refine zaa (oz2.ld (shf:=shInt .i64) z2.part rfl ?_)
 rw [epa]
 refine ⟨g1,some (K.q (pOf K.c p)),g2,?_⟩
 refine zaa (ox7.ld (shf:=shPtr) x7.wheel rfl ?_)
 refine zdq (zcy1 (by omega) ?_)
 refine ⟨⟨oB.rec1.ldis (n:=1) rfl,ldp,g2,ox7.ldis (n:=1) rfl,trivial⟩,?_⟩
 rw [ewh]
 refine zlt (zsy1 ow fun b2=> ?_)
 rw [td _ _ hi,td _ _ hi,zny1 hp,zqx1 hp]
 refine zaa (oz2.ld (shf:=shInt .i64) z2.state rfl (zaa ?_))
 rw [zjv]
 refine oz2.ld (shf:=shInt .i64) z2.core_PC rfl (zaa ?_)
 rw [zjv]
 refine oz2.ld (shf:=zdr) (rowOf (coreX z2)) rfl (zaa ?_)
 refine oz2.ld (shf:=zae) z2.fired rfl ?_
 have ecore:zau (coreX z2)=(s.proc p).core:=hz2.2.2.2.2.1
 have oRow:Has hA ((MachA K pm s tm).star (AsA ztt (⟨z2.state,z2.core_PC,z2.core_Regs_0,z2.core_Regs_1,z2.core_Regs_2,z2.core_Regs_3,z2.core_Regs_4,z2.core_Regs_5,z2.core_Regs_6,z2.core_Regs_7,(s.proc p).cursor,(s.proc p).timer,z2.fired,(s.proc p).wake,rl⟩:S_api_Process) (s.proc p))) k2:=by
  refine o3.map fun kk F hF=> ?_
  refine zpb (fun _ h=>h) (fun F' h=> ?_) hF
  obtain ⟨B,r,nd,e⟩:=h
  exact ⟨B,⟨r,hz2.2.2.2.1,congrArg Core.pc ecore,congrArg Core.regs ecore,rfl,rfl,hz2.2.2.2.2.2.1,rfl⟩,nd,e⟩
 have oF:=(putM _ _ oRow).assoc
 obtain ⟨hD,lD,oD,_,putD⟩:=oF.snd
 have key:=oD.comm.row (cs:=[(.int .i64 z2.state),(.int .i64 z2.core_PC),(.int .i64 z2.core_Regs_0),(.int .i64 z2.core_Regs_1),(.int .i64 z2.core_Regs_2),(.int .i64 z2.core_Regs_3),(.int .i64 z2.core_Regs_4),(.int .i64 z2.core_Regs_5),(.int .i64 z2.core_Regs_6),(.int .i64 z2.core_Regs_7),(.int .i64 (s.proc p).cursor),(.int .i64 (s.proc p).timer),(.bool z2.fired),(.int .i64 (s.proc p).wake),rl.v]) (zero:=[(.int .i64 (0:Int)),(.int .i64 (0:Int)),(.int .i64 (0:Int)),(.int .i64 (0:Int)),(.int .i64 (0:Int)),(.int .i64 (0:Int)),(.int .i64 (0:Int)),(.int .i64 (0:Int)),(.int .i64 (0:Int)),(.int .i64 (0:Int)),(.int .i64 (0:Int)),(.int .i64 (0:Int)),(.bool false),(.int .i64 (0:Int)),(.slice none 0 0)]) (bytes:=136) rfl (fun _=>rfl) (fun _=>rfl) rfl ⟨by omega,by omega⟩ (K:=rest) fun l' k' o'=>hk l' k' (putD _ _ o')
 exact fun b t hb=>⟨⟨trivial,trivial⟩,key b t hb⟩
end
section
variable {h0 h1 k:Hp} {K:MK} {pm:Addr} {s:MS} {tm:Nat->Nat->Int}
theorem zik1 {α:Type} {f:Nat->α} {t:Int} (h:0<=t):(List.range (t+1).toNat).map f=(List.range t.toNat).map f++ [f t.toNat]:=by
 rw [show (t+1).toNat=t.toNat+1 by omega,List.range_succ,List.map_append]
 rfl
theorem zzy1 {Q:S_api_State->Hp->Prop} (m:MkOk h0 K) (mc:CfgM K.c) (o:Has h0 (MachA K pm s tm) k) (sa:Sane K.c s) (td:Tied K.c tm s)
  (hq:∀r k',Has h0 ((MachA K pm s tm).star (AsA zel2 r (s.list K.c))) k'->Q r k'):zdb prog (some pm) Q k:=by
 unfold zdb
 have hprocs:=mc.procs
 have hparts:=mc.parts
 have hpl:=m.partsLen
 have hql:=m.procsLen
 refine zaa (o.rec1.ld (shf:=shInt .i64) s.tick rfl ?_)
 refine zaa (o.rec1.ld (shf:=shSl) K.x.parts rfl ?_)
 have nil1:Has k (PRow (⟨none,0,0⟩:Sl) ([]:List PPart)) k:=Has.noRows (okQ:=znc1) (Hp.le_refl _)
 refine LoopW2.intro (fun (t:Int) (st:S_api_State) k'=>0<=t/\t<=(nP K.c:Int)/\st.Tick=s.tick/\st.Procs=⟨none,0,0⟩/\Has h0 ((MachA K pm s tm).star (PRow st.Parts ((List.range t.toNat).map s.part))) k') (fun t _ _=>(nP K.c-t).toNat) ⟨by omega,by omega,rfl,rfl,by simpa using o.beside nil1⟩ ?_
 rintro t st k1 ⟨t0,t1,et,ep,o1⟩
 by_cases h:t<(nP K.c:Int)
 ·rw [if_pos (decide_eq_true (by omega))]
  have hi:t.toNat<nP K.c:=by omega
  have etn:((t.toNat:Nat):Int)=t:=by omega
  obtain ⟨g1,g2⟩:=m.ptrI (Has.left o1) hi
  rw [etn] at g1 g2
  refine ⟨g1,some (K.q t.toNat),g2,?_⟩
  refine znx1 (Ps:=st.Parts) (ps:=(List.range t.toNat).map s.part) mc o1 sa hi (by rw [List.length_map,List.length_range];omega) fun l' k' o'=> ?_
  rw [wrap64 (by omega) (by omega)]
  refine ⟨⟨by omega,by omega,et,ep,?_⟩,by omega⟩
  rw [zik1 t0]
  exact o'
 ·rw [if_neg (fun e=>h (by have:=of_decide_eq_true e;omega))]
  have etn:t.toNat=nP K.c:=by omega
  rw [etn] at o1
  obtain ⟨hA,lA,oA,hP,putA⟩:=o1.fst
  have mA:=m.mono lA
  refine zaa (oA.rec1.ld (shf:=shSl) K.x.procs rfl ?_)
  have nil2:Has k1 (XRow (⟨none,0,0⟩:Sl) ([]:List PProcess)) k1:=Has.noRows (okQ:=ztt) (Hp.le_refl _)
  refine LoopW2.intro (fun (j:Int) (s1:S_api_State) k'=>0<=j/\j<=(nQ K.c:Int)/\s1.Tick=s.tick/\s1.Parts=st.Parts/\Has hA ((MachA K pm s tm).star (XRow s1.Procs ((List.range j.toNat).map s.proc))) k') (fun j _ _=>(nQ K.c-j).toNat) ⟨by omega,by omega,et,rfl,by rw [ep];simpa using oA.beside nil2⟩ ?_
  rintro j s1 k2 ⟨j0,j1,et1,ep1,o2⟩
  by_cases hj:j<(nQ K.c:Int)
  ·rw [if_pos (decide_eq_true (by omega))]
   have hi:j.toNat<nQ K.c:=by omega
   have etj:((j.toNat:Nat):Int)=j:=by omega
   obtain ⟨g1,g2⟩:=mA.ptr (Has.left o2) hi
   rw [etj] at g1 g2
   refine ⟨g1,some (K.p j.toNat),g2,?_⟩
   have key:=znz1 (Ps:=s1.Procs) (ps:=(List.range j.toNat).map s.proc) (rest:=fun r8 h9=>(0<=IntKind.wrap .i64 (j+1)/\IntKind.wrap .i64 (j+1)<=(nQ K.c:Int)/\s1.Tick=s.tick/\s1.Parts=st.Parts/\Has hA ((MachA K pm s tm).star (XRow r8 ((List.range (IntKind.wrap .i64 (j+1)).toNat).map s.proc))) h9)/\(nQ K.c-IntKind.wrap .i64 (j+1)).toNat<(nQ K.c-j).toNat) mA mc o2 sa td hi (by rw [List.length_map,List.length_range];omega) fun l' k' o'=>by
    rw [wrap64 (by omega) (by omega)]
    refine ⟨⟨by omega,by omega,et1,ep1,?_⟩,by omega⟩
    rw [zik1 j0]
    exact o'
   rw [etj] at key
   exact key
  ·rw [if_neg (fun e=>hj (by have:=of_decide_eq_true e;omega))]
   have etj:j.toNat=nQ K.c:=by omega
   rw [etj] at o2
   refine hq s1 k2 ?_
   have o3:=(putA _ _ o2).assoc
   refine o3.map fun kk F hF=> ?_
   refine zpb (fun _ h=>h) (fun F' h=> ?_) hF
   obtain ⟨F1,F2,e,d,⟨B2,r2,nd2,e2⟩,⟨B1,r1,nd1,e1⟩⟩:=h
   refine ⟨B1++B2,⟨B1,B2,rfl,by rw [ep1];exact r1,r2,et1⟩,?_,fun b=> ?_⟩
   ·rw [List.nodup_append]
    exact ⟨nd1,nd2,fun a ha b hb hab=>by subst hab;exact d a ((e2 a).2 hb) ((e1 a).2 ha)⟩
   ·rw [e b,e1 b,e2 b,List.mem_append]
    exact ⟨fun h=>h.symm,fun h=>h.symm⟩
end
theorem lsOk {α β:Type} {R:α->β->Hp->List Nat->Prop} (ok:AsOk R):AsOk (LsO R):=⟨fun o hs=>LsO.same ok o hs,fun o=>LsO.known ok o⟩
abbrev eQ :S_api_Proc->List Value:=fun x=>zac (sh_api_Proc.enc x)
section
variable {α:Type} {h:Hp} {sz:Nat} {enc:α->List Value} {l:Sl} {xs:List α}
theorem zdb2 {b o:Nat} {i:Int}:sat (some ⟨b,o,none⟩) sz i=⟨b,o+i.toNat*sz,none⟩:=by unfold sat;rw [Option.getD_some,zba]
theorem OwnF.putC {F:List Nat} (o:OwnF h sz enc l xs F) (henc:∀x,(enc x).length=sz) {i:Nat} {x x':α} (hx:xs[i]?=some x) {off:Nat} {new:List Value} (hoff:off+new.length<=sz) (hn:enc x'=(enc x).take off++new++(enc x).drop (off+new.length))
  {K:Hp->Prop} (hk:∀h',OwnF h' sz enc l (xs.set i x') F->Mv F h F h'->K h'):StW h ((sat l.base sz (i:Int)).add off) new K:=by
 have hi:i<xs.length:=by
  refine Classical.byContradiction fun hh=> ?_
  rw [List.getElem?_eq_none (by omega)] at hx;cases hx
 obtain ⟨o1,o2,o3⟩:=o
 rcases o3 with ⟨_,e2,_⟩ | ⟨b,cs,e1,rfl,kb,e4,e5⟩
 ·omega
 ·rw [e1,zdb2,zba,show ((i:Int)).toNat=i from rfl,Nat.zero_add]
  have hmul:i*sz+sz<=l.len*sz:=by
   have:=Nat.mul_le_mul_right sz (show i+1<=l.len by omega)
   rw [Nat.add_mul,Nat.one_mul] at this
   exact this
  have hmul2:l.len*sz<=l.cap*sz:=Nat.mul_le_mul_right sz o2
  refine zsy kb (by rw [e4];omega) fun h' m' k'=> ?_
  refine hk h' ⟨by simp [o1],o2,.inr ⟨b,_,e1,rfl,k',?_,?_⟩⟩ m'
  ·simp only [List.length_append,List.length_take,List.length_drop,e4]
   omega
  ·have t1:cs.take (i*sz)=(xs.take i).flatMap enc:=by
    rw [zkv henc,<-e5,List.take_take];congr 1;omega
   have t2:(cs.drop (i*sz+sz)).take (l.len*sz-(i*sz+sz))=(xs.drop (i+1)).flatMap enc:=by
    rw [zin henc,<-e5,Nat.add_mul,Nat.one_mul,List.drop_take]
   have t3:(cs.drop (i*sz)).take sz=enc x:=by
    have h2:(xs.drop i).flatMap enc=enc x++(xs.drop (i+1)).flatMap enc:=by
     rw [List.drop_eq_getElem_cons hi,List.flatMap_cons]
     rw [List.getElem?_eq_getElem hi] at hx
     rw [Option.some.inj hx]
    have h3:(xs.drop i).flatMap enc=(cs.drop (i*sz)).take (l.len*sz-i*sz):=by
     rw [zin henc,<-e5,List.drop_take]
    rw [h3] at h2
    have h4:=congrArg (List.take sz) h2
    rw [List.take_take,Nat.min_eq_left (by omega),<-henc x,List.take_left] at h4
    rw [henc x] at h4
    exact h4
   have hcs:cs=cs.take (i*sz)++(enc x++cs.drop (i*sz+sz)):=by
    rw [<-t3,<-List.drop_drop,List.take_append_drop,List.take_append_drop]
   have hl0:(cs.take (i*sz)).length=i*sz:=by rw [List.length_take];omega
   have hle:(enc x).length=sz:=henc x
   have d1:cs.take (i*sz+off)=cs.take (i*sz)++(enc x).take off:=by
    conv=>lhs;rw [hcs]
    rw [List.take_append,hl0,List.take_of_length_le (by omega),List.take_append,hle,show i*sz+off-i*sz=off by omega,show off-sz=0 by omega,List.take_zero,List.append_nil]
   have d2:cs.drop (i*sz+off+new.length)=(enc x).drop (off+new.length)++cs.drop (i*sz+sz):=by
    conv=>lhs;rw [hcs]
    rw [List.drop_append,hl0,List.drop_eq_nil_of_le (by omega),List.nil_append,List.drop_append,hle,show i*sz+off+new.length-i*sz=off+new.length by omega,show off+new.length-sz=0 by omega,List.drop_zero]
   rw [d1,d2,show cs.take (i*sz)++(enc x).take off++new++((enc x).drop (off+new.length)++cs.drop (i*sz+sz))=(cs.take (i*sz)++enc x')++cs.drop (i*sz+sz) by rw [hn];simp]
   rw [zea1 x' hi]
   have hl1:(cs.take (i*sz)++enc x').length=i*sz+sz:=by
    rw [List.length_append,hl0,henc]
   rw [List.take_append,hl1,t2,List.take_of_length_le (by rw [hl1];exact hmul),t1]
   simp
end
section
variable {h0 k:Hp}
theorem Has.oput {α:Type} {sz:Nat} {enc:α->List Value} {l:Sl} {xs:List α} (o:Has h0 (OwnA sz enc l xs) k) (henc:∀x,(enc x).length=sz) {i:Nat} {x x':α} (hx:xs[i]?=some x) {off:Nat} {new:List Value} (hoff:off+new.length<=sz) (hn:enc x'=(enc x).take off++new++(enc x).drop (off+new.length))
  {K:Hp->Prop} (hk:∀k',Has h0 (OwnA sz enc l (xs.set i x')) k'->K k'):StW k ((sat l.base sz (i:Int)).add off) new K:=by
 obtain ⟨hl,F,⟨B,h,e⟩,hf⟩:=o
 refine h.putC henc hx hoff hn fun k' h' m=>hk k' ⟨fun b ob eb=>m.keep b ob (hl b ob eb) fun hb=> ?_,F,⟨B,h',e⟩,hf⟩
 rw [hf b ((e b).2 hb)] at eb;cases eb
theorem Has.ownRw {α:Type} {sz:Nat} {enc:α->List Value} {l:Sl} {xs:List α} (o:Has h0 (OwnA sz enc l xs) k) (henc:∀x,(enc x).length=sz):Rw k sz enc l xs:=by
 obtain ⟨hl,F,⟨B,h,e⟩,hf⟩:=o
 exact h.rw henc
theorem Has.rowsOf {γ:Type} {sh:Shape} {sz:Nat} {Q:sh.T->γ->Hp->List Nat->Prop} {okQ:AsOk Q} {l:Sl} {xs:List sh.T} {ps:List γ} (o:Has h0 ((OwnA sz (fun x=>zac (sh.enc x)) l xs).star (AsA (lsOk okQ) xs ps)) k):Has h0 (AsA (RowsO.ok (sh:=sh) (sz:=sz) okQ) l ps) k:=by
 refine o.map fun kk F h=> ?_
 obtain ⟨F1,F2,e,d,⟨B1,o1,e1⟩,⟨B2,o2,nd2,e2⟩⟩:=h
 refine ⟨B1++B2,⟨xs,B1,B2,rfl,o1,o2⟩,?_,fun b=> ?_⟩
 ·rw [List.nodup_append]
  exact ⟨o1.nodup,nd2,fun a ha b hb hab=>by subst hab;exact d a ((e1 a).2 ha) ((e2 a).2 hb)⟩
 ·rw [e b,e1 b,e2 b,List.mem_append]
theorem zzz1 {x:S_api_Config} {c:PCfg} {Q:S_api_Config->Hp->Prop} (a:CfgAt k x c) (hl:c.labels.length<=1000) (ht:c.table.length<=1000) (hp:c.procs.length<=1000) (hc:∀y∈c.procs,y.code.length<=1000)
  (hq:∀r k',Has k ((AsA okUs r.Labels c.labels).star ((AsA okIs r.Table c.table).star (AsA okProcs r.Procs c.procs))) k'->r.Fuel=c.fuel->r.Lane=c.lane->r.Locks=c.locks->r.Log=c.log->Q r k'):zlh prog x Q k:=by
 unfold zlh
 refine zeg ?_
 unfold zbs
 refine zhl (enc:=fun x:Int=>zac ((shInt .u64).enc x)) (tb_ok.und 23 ty23 rfl) a.labels (by decide) (fun _=>rfl) (fun _=>rfl) rfl ⟨by omega,by omega⟩ fun ll k1 l1 n1=> ?_
 refine ⟨⟨trivial,trivial,trivial⟩,?_⟩
 have a1:=a.mono l1
 refine zcm ?_
 unfold zbe
 refine zhl (enc:=fun x:Int=>zac ((shInt .i64).enc x)) (tb_ok.und 24 ty24 rfl) a1.table (by decide) (fun _=>rfl) (fun _=>rfl) rfl ⟨by omega,by omega⟩ fun lt k2 l2 n2=> ?_
 refine ⟨⟨trivial,trivial⟩,?_⟩
 have a2:=a1.mono l2
 obtain ⟨ps,hps,hall⟩:=a2.procs
 have hpl:ps.length=c.procs.length:=hall.len
 refine zhz ?_
 unfold zdy
 refine zhl (enc:=eQ) (tb_ok.und 25 ty25 rfl) hps (by decide) (fun _=>rfl) (fun _=>rfl) rfl ⟨by omega,by omega⟩ fun lp k3 l3 n3=> ?_
 have hlen:=(n3.ownRw (fun _=>rfl)).1
 have nil:Has k3 (AsA (lsOk znb1) ([]:List S_api_Proc) ([]:List PProc)) k3:=Has.ofAs (B:=[]) (Hp.le_refl _) rfl .nil fun _ h=>by cases h
 refine LoopW1.intro (fun (t:Int) k'=>0<=t/\t<=(ps.length:Int)/\∃qs:List S_api_Proc,qs.length=t.toNat/\Has k2 ((OwnA 2 eQ lp (qs++ps.drop t.toNat)).star (AsA (lsOk znb1) qs (c.procs.take t.toNat))) k') (fun t _=>(ps.length-t).toNat) ⟨by omega,by omega,[],rfl,by simpa using n3.beside nil⟩ ?_
 rintro t k' ⟨t0,t1,qs,eqs,o⟩
 by_cases h:t<(ps.length:Int)
 ·rw [if_pos (decide_eq_true (by omega))]
  have hi:t.toNat<ps.length:=by omega
  have etn:((t.toNat:Nat):Int)=t:=by omega
  obtain ⟨h5,l5,oO,_,putO⟩:=o.fst
  have hrow:(qs++ps.drop t.toNat)[t.toNat]?=some ps[t.toNat]:=by
   rw [List.getElem?_append_right (by omega),eqs,Nat.sub_self,List.getElem?_drop,Nat.add_zero,List.getElem?_eq_getElem hi]
  obtain ⟨pc,hpc,epart,is,his,him⟩:=hall.get (i:=t.toNat) (List.getElem?_eq_getElem hi)
  generalize ps[t.toNat]=y at hrow his epart
  have hil:is.length<=1000:=by
   have:=hc pc (List.mem_of_getElem? hpc)
   rw [<-him,List.length_map] at this
   exact this
  refine Rs.get (sh:=sh_api_Proc) (oO.ownRw (fun _=>rfl)) (fun _=>rfl) (by omega) t0 (by rw [List.length_append,List.length_drop];omega) fun (y':S_api_Proc) hy'=> ?_
  rw [hrow] at hy'
  cases hy'
  refine zje ?_
  unfold zej
  refine zhl (enc:=fun x=>zac (sh_api_Ins.enc x)) (tb_ok.und 77 ty77 rfl) (Rw.mono o.le his) (by decide) (fun _=>rfl) (fun _=>rfl) rfl ⟨by omega,by omega⟩ fun lc k6 l6 n6=> ?_
  have hA:∀l:List S_api_Ins,All2 (fun x p=>insOf x=p) l (l.map insOf):=fun l=>by
   induction l with
   | nil=>trivial
   | cons a r ih=>exact ⟨rfl,ih⟩
  have oI:Has k' (AsA okIns lc pc.code) k6:=by
   rw [<-him]
   obtain ⟨hle,F,⟨B,hB,e⟩,hf⟩:=n6
   exact Has.ofAs hle ⟨is,B,[],by simp,hB,zkt1 (hA is)⟩ hB.nodup fun b hb=>hf b ((e b).2 hb)
  have oA:=(o.beside oI).assoc
  obtain ⟨h7,l7,oW,_,putW⟩:=oA.fst
  have hInB:=(Rs.get (sh:=sh_api_Proc) (K:=fun _=>True) (oW.ownRw (fun _=>rfl)) (fun _=>rfl) (by omega) t0 (by rw [List.length_append,List.length_drop];omega) fun _ _=>trivial).1
  refine ⟨⟨trivial,trivial⟩,hInB,?_⟩
  have key:=oW.oput (i:=t.toNat) (x':=(⟨y.Part,lc⟩:S_api_Proc)) (off:=1) (new:=[lc.v]) (fun _=>rfl) hrow (by show 1+1<=2;omega) rfl
   (K:=fun h6=>(0<=IntKind.wrap .i64 (t+1)/\IntKind.wrap .i64 (t+1)<=(ps.length:Int)/\∃qs:List S_api_Proc,qs.length=(IntKind.wrap .i64 (t+1)).toNat/\Has k2 ((OwnA 2 eQ lp (qs++ps.drop (IntKind.wrap .i64 (t+1)).toNat)).star (AsA (lsOk znb1) qs (c.procs.take (IntKind.wrap .i64 (t+1)).toNat))) h6)/\(ps.length-IntKind.wrap .i64 (t+1)).toNat<(ps.length-t).toNat) fun k8 o8=> ?_
  ·rw [etn] at key
   exact key
  ·rw [wrap64 (by omega) (by omega)]
   refine ⟨⟨by omega,by omega,qs++ [⟨y.Part,lc⟩],by rw [List.length_append,eqs,List.length_singleton];omega,?_⟩,by omega⟩
   have e1:(t+1).toNat=t.toNat+1:=by omega
   have e2:(qs++ps.drop t.toNat).set t.toNat (⟨y.Part,lc⟩:S_api_Proc)=(qs++ [⟨y.Part,lc⟩])++ps.drop (t.toNat+1):=by
    rw [List.set_append_right _ _ (by omega),eqs,Nat.sub_self,List.drop_eq_getElem_cons hi,List.set_cons_zero,List.append_assoc]
    rfl
   rw [e2] at o8
   have e3:c.procs.take (t.toNat+1)=c.procs.take t.toNat++ [pc]:=by rw [List.take_add_one,hpc];rfl
   rw [e1,e3]
   refine (putW _ _ o8).map fun kk F hF=>zpb (fun _ h=>h) (fun F' h=> ?_) hF
   obtain ⟨F1,F2,e,d,⟨B1,r1,nd1,f1⟩,⟨B2,r2,nd2,f2⟩⟩:=h
   refine ⟨B1++B2,LsO.snoc (R:=ProcO) (a:=(⟨y.Part,lc⟩:S_api_Proc)) (b:=pc) (B':=B2) ⟨epart,r2⟩ r1,?_,fun b=> ?_⟩
   ·rw [List.nodup_append]
    exact ⟨nd1,nd2,fun a ha b hb hab=>by subst hab;exact d a ((f1 a).2 ha) ((f2 a).2 hb)⟩
   ·rw [e b,f1 b,f2 b,List.mem_append]
 ·rw [if_neg (fun e=>h (by have:=of_decide_eq_true e;omega))]
  have e1:t.toNat=ps.length:=by omega
  rw [e1,List.drop_length,List.append_nil,hpl,List.take_length] at o
  have o1:=o.rowsOf (sh:=sh_api_Proc) (okQ:=znb1)
  have oU:Has k (AsA okUs ll c.labels) k1:=n1.pureRows (f:=fun x=>x) (fun _=>rfl) fun _=>rfl
  have oI:Has k1 (AsA okIs lt c.table) k2:=n2.pureRows (f:=fun x=>x) (fun _=>rfl) fun _=>rfl
  exact hq _ k' ((oU.beside oI).beside o1).assoc a.fuel a.lane a.locks a.log
end
section
variable {h0 k:Hp} {K:MK} {pm:Addr} {s:MS} {tm:Nat->Nat->Int}
theorem cfgOf {r:S_api_Config} {c:PCfg} (o:Has h0 ((AsA okUs r.Labels c.labels).star ((AsA okIs r.Table c.table).star (AsA okProcs r.Procs c.procs))) k) (e1:r.Fuel=c.fuel) (e2:r.Lane=c.lane) (e3:r.Locks=c.locks) (e4:r.Log=c.log):Has h0 (AsA okCfg r c) k:=by
 refine o.map fun kk F h=> ?_
 obtain ⟨F1,F2,e,d,⟨B1,r1,nd1,f1⟩,⟨F3,F4,e',d',⟨B2,r2,nd2,f2⟩,⟨B3,r3,nd3,f3⟩⟩⟩:=h
 refine ⟨B1++(B2++B3),⟨B1,B2,B3,rfl,r1,r2,r3,e1,e2,e3,e4⟩,?_,fun b=> ?_⟩
 ·rw [List.nodup_append,List.nodup_append]
  refine ⟨nd1,⟨nd2,nd3,fun a ha b hb hab=> ?_⟩,fun a ha b hb hab=> ?_⟩
  ·subst hab;exact d' a ((f2 a).2 ha) ((f3 a).2 hb)
  ·subst hab
   rcases List.mem_append.1 hb with hb | hb
   ·exact d a ((f1 a).2 ha) ((e' a).2 (.inl ((f2 a).2 hb)))
   ·exact d a ((f1 a).2 ha) ((e' a).2 (.inr ((f3 a).2 hb)))
 ·rw [e b,e' b,f1 b,f2 b,f3 b,List.mem_append,List.mem_append]
end
def part0 :PPart:=⟨0,[],0,0,[],[]⟩
def proc0 :PProcess:=⟨0,0,[],0,0,false,0,[]⟩
def msOf (t:zcf):MS:=⟨t.tick,fun i=>t.parts.getD i part0,fun p=>t.procs.getD p proc0⟩
theorem zvr {l:List Int} (h:∀z∈l,l.countP (fun y=>decide (y=z))<=1):l.Nodup:=by
 induction l with
 | nil=>exact List.Pairwise.nil
 | cons a l ih=>
  rw [List.nodup_cons]
  refine ⟨fun hm=> ?_,ih fun z hz=> ?_⟩
  ·have h1:=h a (List.mem_cons_self ..)
   rw [List.countP_cons] at h1
   have:0<l.countP (fun y=>decide (y=a)):=List.countP_pos_iff.2 ⟨a,hm,by simp⟩
   simp at h1
   exact absurd hm (by
    intro hm
    have:=h1 a hm
    exact this rfl)
  ·have:=h z (List.mem_cons_of_mem _ hz)
   rw [List.countP_cons] at this
   omega
theorem ztk1 {α:Type} {f:α->Nat} {l:List α} {a:α} (h:a∈l):f a<=(l.map f).sum:=by
 induction l with
 | nil=>cases h
 | cons b l ih=>
  rw [List.map_cons,List.sum_cons]
  rcases List.mem_cons.1 h with rfl | h
  ·omega
  ·have:=ih h;omega
theorem zcz1 {α:Type} {f:α->Nat} {l:List α} (h:(l.map f).sum≠0):∃a∈l,f a≠0:=by
 refine Classical.byContradiction fun hn=>h ?_
 rw [List.sum_eq_zero_iff_forall_eq_nat]
 intro y hy
 obtain ⟨a,ha,rfl⟩:=List.mem_map.1 hy
 refine Classical.byContradiction fun h2=>hn ⟨a,ha,h2⟩
section
variable {c:PCfg} {fl:Nat->Nat->Bool} {t:zcf}
theorem zgd1 (hp:t.parts.length=nP c) (hq:t.procs.length=nQ c):(msOf t).list c=t:=by
 have e1:(List.range (nP c)).map (msOf t).part=t.parts:=by
  refine List.ext_getElem? fun j=> ?_
  rw [List.getElem?_map]
  by_cases h:j<nP c
  ·rw [List.getElem?_range h,List.getElem?_eq_getElem (by omega)]
   simp [msOf,List.getD,List.getElem?_eq_getElem (show j<t.parts.length by omega)]
  ·rw [List.getElem?_eq_none (by rw [List.length_range];omega),List.getElem?_eq_none (by omega)]
   rfl
 have e2:(List.range (nQ c)).map (msOf t).proc=t.procs:=by
  refine List.ext_getElem? fun j=> ?_
  rw [List.getElem?_map]
  by_cases h:j<nQ c
  ·rw [List.getElem?_range h,List.getElem?_eq_getElem (by omega)]
   simp [msOf,List.getD,List.getElem?_eq_getElem (show j<t.procs.length by omega)]
  ·rw [List.getElem?_eq_none (by rw [List.length_range];omega),List.getElem?_eq_none (by omega)]
   rfl
 unfold MS.list
 rw [e1,e2]
 rfl
theorem ztl1 (m:CfgM c) {i:Nat} {st:zcf}:∀ {l:List zvk} {last:Int},LogG c st i last l->l.Pairwise (fun a b=>a.tick<=b.tick)/\∀e∈l,last<=e.tick/\e.tick<st.tick/\0<=e.proc/\e.proc.toNat<nQ c/\pOf c e.proc.toNat=i
 | [],_,_=>⟨List.Pairwise.nil,fun e h=>by cases h⟩
 | e::r,last,h=>by
  obtain ⟨h1,h2,h3,h4⟩:=h
  obtain ⟨a,b⟩:=ztl1 m h4
  refine ⟨List.pairwise_cons.2 ⟨fun e' he'=>(b e' he').1,a⟩,fun e' he'=> ?_⟩
  rcases List.mem_cons.1 he' with rfl | he'
  ·exact ⟨h1,h2,(zlr m).1 h3⟩
  ·have:=b e' he'
   exact ⟨by omega,this.2⟩
theorem zaa2 (m:CfgM c) (h:MayG c t fun i y=>fl i y.toNat=true) (hr:∀x∈t.procs,x.regs.length=8):Good c fl (msOf t) No No t.tick:=by
 obtain ⟨⟨hT,hp,hq⟩,hP,hQ,hW1,hW2,hW3⟩:=h
 have hlist:=zgd1 (c:=c) (t:=t) hp hq
 have gp:∀ {i},i<nP c->t.parts[i]?=some ((msOf t).part i):=fun {i} hi=>by
  have:=znw1 (c:=c) (s:=msOf t) hi
  rwa [hlist] at this
 have gq:∀ {i},i<nQ c->t.procs[i]?=some ((msOf t).proc i):=fun {i} hi=>by
  have:=zza (c:=c) (s:=msOf t) hi
  rwa [hlist] at this
 have gst:∀ {p:Int} {q:PProcess->Prop},stP t p q->p.toNat<nQ c->q ((msOf t).proc p.toNat):=fun {p q} h hp=>by
  obtain ⟨x,e1,e2⟩:=h
  rw [gq hp] at e1
  cases e1
  exact e2
 have gat:∀ {p:Int} {q:PProcess->PIns->Prop},atP c t p q->p.toNat<nQ c->∃n,insX c p.toNat ((msOf t).proc p.toNat)=some n/\q ((msOf t).proc p.toNat) n:=fun {p q} h hp=>by
  obtain ⟨x,y,n,e1,e2,e3,e4⟩:=h
  rw [gq hp] at e1
  cases e1
  obtain ⟨y',f1,f2,f3⟩:=zho m hp
  rw [e2] at f1
  cases f1
  exact ⟨n,by rw [<-zfz1 f3];exact e3,e4⟩
 have hin3:∀p,p<nQ c->∀j,j<nQ c->∀(i:Nat) l,((msOf t).proc j).lanes[i]?=some l->∀w∈l.waiters,w.proc=(p:Int)->((msOf t).proc p).state=2:=fun p hp j hj i l hl w hw e=>by
  obtain ⟨y,f1,f2,f3⟩:=zho m hj
  have h5:=(hW2 j _ y (gq hj) f1 i l hl w hw).2.2.2.2
  obtain ⟨n,_,h6,_⟩:=gat h5 (by rw [e,Int.toNat_natCast];exact hp)
  rw [e,Int.toNat_natCast] at h6
  exact h6
 have hin2:∀p,p<nQ c->∀j,j<nP c->∀q∈((msOf t).part j).queues,(p:Int)∈q->((msOf t).proc p).state=3:=fun p hp j hj q hq' hm=>by
  obtain ⟨k,hk,he⟩:=List.getElem_of_mem hq'
  have hg:((msOf t).part j).queues[k]?=some q:=by rw [List.getElem?_eq_getElem hk,he]
  obtain ⟨n,_,h6,_⟩:=gat (hW1 j _ (gp hj) k q hg _ hm).2.1 (by rw [Int.toNat_natCast];exact hp)
  rw [Int.toNat_natCast] at h6
  exact h6
 refine ⟨hT.1,fun i hi=> ?_,fun p hp'=> ?_,fun i hi k o ho=> ?_,fun i hi k q hqk=> ?_,fun r hr' i l hl=> ?_,fun p hp' _ h3=> ?_,fun p hp' _ h2=> ?_⟩
 ·obtain ⟨⟨a1,a2,a3⟩,a4,a5,a6,a7,a8,a9,_⟩:=hP i _ (gp hi)
  obtain ⟨b1,b2⟩:=ztl1 m a4
  exact ⟨⟨a1,by rw [zzw1 m] at a2;exact a2⟩,a3,⟨b1,b2⟩,a5,a6,a7,a8,a9⟩
 ·obtain ⟨y,f1,f2,f3⟩:=zho m hp'
  obtain ⟨a1,a2,a3,a4,a5,a6,a7,a8,a9,b1,b2,b3,b4⟩:=hQ p _ y (gq hp') f1
  rw [zfz1 f3] at b1 b2 b3 b4
  rw [f3] at a2
  refine ⟨a1,a2,a3,a4,a5,a6,.inr a7,fun h=>⟨.inr (a8 h).1,(a8 h).2⟩,fun i l hl=> ?_,b1,b2,b3,b4,hr _ (List.mem_of_getElem? (gq hp'))⟩
  obtain ⟨c1,c2,c3,c4⟩:=a9 i l hl
  refine ⟨c1,c2,c3,fun hu hi=> ?_⟩
  have:=c4 hu hi
  rw [f2] at this
  have this:fl i ((pOf c p:Nat):Int).toNat=true:=this
  rwa [Int.toNat_natCast] at this
 ·by_cases e:o= -1
  ·exact .inl e
  ·obtain ⟨b1,b2⟩:=(hP i _ (gp hi)).2.2.2.2.2.2.2 o (List.mem_of_getElem? ho) e
   obtain ⟨c1,c2,c3⟩:=(zlr m).1 b1
   exact .inr ⟨c1,c2,c3,.inl (livesB_iff.2 (gst b2 c2))⟩
 ·have hall:=hW1 i _ (gp hi) k q hqk
  refine ⟨zvr fun z hz=> ?_,fun z hz=> ?_,fun hne=> ?_⟩
  ·obtain ⟨c1,c2,c3⟩:=(zlr m).1 (hall z hz).1
   have h3:=hW3 z.toNat _ (gq c2)
   rw [show ((z.toNat:Nat):Int)=z by omega] at h3
   have h4:q.countP (fun y=>decide (y=z))<=cntQ z ((msOf t).part i):=ztk1 (f:=fun q:List Int=>q.countP (fun y=>decide (y=z))) (List.mem_of_getElem? hqk)
   have h5:cntQ z ((msOf t).part i)<=(t.parts.map (cntQ z)).sum:=ztk1 (List.mem_of_getElem? (gp hi))
   split at h3<;>omega
  ·obtain ⟨c1,c2,c3⟩:=(zlr m).1 (hall z hz).1
   obtain ⟨n,e1,e2,e3⟩:=gat (hall z hz).2.1 c2
   obtain ⟨y,f1,f2,f3⟩:=zho m c2
   have h5:=(hQ z.toNat _ y (gq c2) f1).2.2.2.2.2.2.2.2.2.2.2.1 e2
   obtain ⟨n',g1,g2⟩:=h5
   rw [zfz1 f3,e1] at g1
   cases g1
   exact ⟨c1,c2,c3,fun h=>h,.inr ⟨e2,n,e1,g2,e3⟩⟩
  ·cases q with
   | nil=>exact absurd rfl hne
   | cons a r=>
    obtain ⟨o,e1,e2,e3⟩:=(hall a (List.mem_cons_self ..)).2.2
    refine ⟨o,e1,by omega,fun hm=> ?_⟩
    obtain ⟨o',e4,_,e5⟩:=(hall o hm).2.2
    rw [e1] at e4
    cases e4
    exact e5 rfl
 ·obtain ⟨y,f1,f2,f3⟩:=zho m hr'
  have hall:=hW2 r _ y (gq hr') f1 i l hl
  refine ⟨zvr fun z hz=> ?_,fun hne=> ?_,fun w hw=> ?_⟩
  ·obtain ⟨w,hw,rfl⟩:=List.mem_map.1 hz
   obtain ⟨c1,c2,c3⟩:=(zlr m).1 (hall w hw).2.1
   have h3:=hW3 w.proc.toNat _ (gq c2)
   rw [show ((w.proc.toNat:Nat):Int)=w.proc by omega] at h3
   have h4:cntW w.proc l<=cntL w.proc ((msOf t).proc r):=ztk1 (List.mem_of_getElem? hl)
   have h5:cntL w.proc ((msOf t).proc r)<=(t.procs.map (cntL w.proc)).sum:=ztk1 (List.mem_of_getElem? (gq hr'))
   rw [zgb1] at h4
   split at h3<;>omega
  ·cases hws:l.waiters with
   | nil=>exact absurd hws hne
   | cons a ws=>
    obtain ⟨e1,_,e3,e4,_⟩:=hall a (by rw [hws];exact List.mem_cons_self ..)
    exact ⟨by omega,.inl (livesB_iff.2 e3),e4⟩
  ·obtain ⟨e1,e2,_,_,e5⟩:=hall w hw
   obtain ⟨c1,c2,c3⟩:=(zlr m).1 e2
   obtain ⟨n,g1,g2,g3,g4,g5⟩:=gat e5 c2
   exact ⟨c1,c2,c3,fun h=>h,.inr ⟨g2,n,g1,g3,by simp [regR,List.getD,g4],by simp [regR,List.getD,g5]⟩⟩
 ·have h4:=hW3 p _ (gq hp')
  rw [if_pos (.inl h3)] at h4
  have h5:(t.procs.map (cntL (p:Int))).sum=0:=by
   rw [List.sum_eq_zero_iff_forall_eq_nat]
   intro y hy
   obtain ⟨x,hx,rfl⟩:=List.mem_map.1 hy
   obtain ⟨j,hj,he⟩:=List.getElem_of_mem hx
   have hj':j<nQ c:=by have:t.procs.length=nQ c:=hq;omega
   have e:x=(msOf t).proc j:=by
    have h1:=gq hj'
    rw [List.getElem?_eq_getElem hj,he] at h1
    exact Option.some.inj h1
   subst e
   refine zgc1 fun l hl w hw ew=> ?_
   obtain ⟨i,hi,he2⟩:=List.getElem_of_mem hl
   have:=hin3 p hp' j hj' i l (by rw [List.getElem?_eq_getElem hi,he2]) w hw ew
   omega
  have h6:(t.parts.map (cntQ (p:Int))).sum≠0:=by omega
  obtain ⟨x,hx,hx0⟩:=zcz1 h6
  obtain ⟨j,hj,he⟩:=List.getElem_of_mem hx
  have hj':j<nP c:=by have:t.parts.length=nP c:=hp;omega
  have e:x=(msOf t).part j:=by
   have h1:=gp hj'
   rw [List.getElem?_eq_getElem hj,he] at h1
   exact Option.some.inj h1
  subst e
  obtain ⟨q,hq',hq0⟩:=zcz1 hx0
  obtain ⟨k,hk,he2⟩:=List.getElem_of_mem hq'
  have hg:((msOf t).part j).queues[k]?=some q:=by rw [List.getElem?_eq_getElem hk,he2]
  have hm:(p:Int)∈q:=Classical.byContradiction fun hn=>hq0 (zme hn)
  have h7:=((zlr m).1 (hW1 j _ (gp hj') k q hg _ hm).1).2.2
  rw [Int.toNat_natCast] at h7
  exact ⟨k,q,by rw [h7];exact hg,hm⟩
 ·have h4:=hW3 p _ (gq hp')
  rw [if_pos (.inr h2)] at h4
  have h5:(t.parts.map (cntQ (p:Int))).sum=0:=by
   rw [List.sum_eq_zero_iff_forall_eq_nat]
   intro y hy
   obtain ⟨x,hx,rfl⟩:=List.mem_map.1 hy
   obtain ⟨j,hj,he⟩:=List.getElem_of_mem hx
   have hj':j<nP c:=by have:t.parts.length=nP c:=hp;omega
   have e:x=(msOf t).part j:=by
    have h1:=gp hj'
    rw [List.getElem?_eq_getElem hj,he] at h1
    exact Option.some.inj h1
   subst e
   refine zga1 fun q hq' hm=> ?_
   have:=hin2 p hp' j hj' q hq' hm
   omega
  have h6:(t.procs.map (cntL (p:Int))).sum≠0:=by omega
  obtain ⟨x,hx,hx0⟩:=zcz1 h6
  obtain ⟨j,hj,he⟩:=List.getElem_of_mem hx
  have hj':j<nQ c:=by have:t.procs.length=nQ c:=hq;omega
  have e:x=(msOf t).proc j:=by
   have h1:=gq hj'
   rw [List.getElem?_eq_getElem hj,he] at h1
   exact Option.some.inj h1
  subst e
  obtain ⟨l,hl',hl0⟩:=zcz1 hx0
  obtain ⟨i,hi,he2⟩:=List.getElem_of_mem hl'
  have hg:((msOf t).proc j).lanes[i]?=some l:=by rw [List.getElem?_eq_getElem hi,he2]
  rw [zgb1] at hl0
  have hm:(p:Int)∈l.waiters.map (·.proc):=Classical.byContradiction fun hn=>hl0 (zme hn)
  obtain ⟨w,hw,e⟩:=List.mem_map.1 hm
  obtain ⟨y,f1,f2,f3⟩:=zho m hj'
  have h7:=((zlr m).1 (hW2 j _ y (gq hj') f1 i l hg w hw).2.1).2.2
  rw [e,Int.toNat_natCast] at h7
  exact ⟨j,hj',l,by rw [h7];exact hg,w,hw,e⟩
end
def joinH (h' h1 k:Hp):Hp:=fun b=>match h' b with | some ob=>some ob | none=>if h1 b=none then k b else none
theorem zil1 {h' h1 k:Hp} {b:Nat} {ob:Obj} (e:h' b=some ob):joinH h' h1 k b=some ob:=by unfold joinH;rw [e]
theorem zbc1 {h' h1 k:Hp} {b:Nat} (e:h' b=none):joinH h' h1 k b=if h1 b=none then k b else none:=by unfold joinH;rw [e]
theorem zvz1 {P:Program} {g:FuncId} {args:List Value} {K0 K:Value->Hp->Prop} {h1 k:Hp} {A:Asn} (o:Has h1 A k) (hc:CallE P g args K0 h1) (hk:∀v h1' k',K0 v h1'->Has h1' A k'->K v k'):CallE P g args K k:=by
 intro w hs
 refine (hc w (hs.mono o.le)).mono ?_
 rintro e w' ⟨v,h1',rfl,k0,st⟩
 obtain ⟨hl,F,a,hf⟩:=o
 have key:∀b,F b->h1' b=none/\w'.heap[b]?=w.heap[b]?:=fun b hb=>by
  cases e:k b with
  | none=>exact absurd e (A.known a b hb)
  | some ob=>
   have:=st.keep b (hs.lt e) (hf b hb)
   exact ⟨this.2,this.1⟩
 refine ⟨v,joinH h1' h1 k,rfl,hk v h1' _ k0 ⟨fun b ob e=>zil1 e,F,A.same a fun b hb=> ?_,fun b hb=>(key b hb).1⟩,?_⟩
 ·rw [zbc1 (key b hb).1,if_pos (hf b hb)]
 ·refine ⟨fun b ob e=> ?_,st.size,fun b hb hn=> ?_,st.os,st.tape,st.output⟩
  ·cases e1:h1' b with
   | some o'=>rw [zil1 e1] at e;cases e;exact st.sub b _ e1
   | none=>
    rw [zbc1 e1] at e
    by_cases e2:h1 b=none
    ·rw [if_pos e2] at e
     rw [(st.keep b (hs.lt e) e2).1]
     exact hs b ob e
    ·rw [if_neg e2] at e;cases e
  ·have e2:h1 b=none:=zct hl hn
   obtain ⟨q1,q2⟩:=st.keep b hb e2
   exact ⟨q1,by rw [zbc1 q2,if_pos e2];exact hn⟩
theorem zbd1 {P:Program} {g:FuncId} {args:List Value} {sh:Shape} {K0 K:sh.T->Hp->Prop} {h1 k:Hp} {A:Asn} (o:Has h1 A k) (hc:CallT P g args sh K0 h1) (hk:∀x h1' k',K0 x h1'->Has h1' A k'->K x k'):CallT P g args sh K k:=
 zvz1 o hc fun _ h1' k' ⟨x,e,h⟩ o'=>⟨x,e,hk x h1' k' h o'⟩
theorem zim1 {P:Program} {g:FuncId} {args:List Value} {s1 s2 s3:Shape} {K0 K:s1.T->s2.T->s3.T->Hp->Prop} {h1 k:Hp} {A:Asn} (o:Has h1 A k) (hc:Call3 P g args s1 s2 s3 K0 h1) (hk:∀x y z h1' k',K0 x y z h1'->Has h1' A k'->K x y z k'):Call3 P g args s1 s2 s3 K k:=
 zbd1 o hc fun p h1' k' h o'=>hk p.1 p.2.1 p.2.2 h1' k' h o'
theorem zge1 {c:PCfg} (h:(cfgE c).1=0):CfgM c:=by
 obtain ⟨e1,e2,e3,e4,e5,e6,e7,e8,e9,e10,e11⟩:=cfgP_zero.1 h
 obtain ⟨l1,l2,l3⟩:=mayP_zero.1 e1
 have:=List.length_pos_iff.2 l1
 have:=List.length_pos_iff.2 e9
 refine ⟨⟨by unfold nP;omega,by unfold nP;omega⟩,⟨e2,e3,fun i hi=>by have:=e4 i hi;unfold nP;omega⟩,e5,e6,e7,e8,⟨by unfold nQ;omega,by unfold nQ;omega⟩,fun y hy=>by have:=(e11 y hy).1;unfold nP;omega,fun y hy=>(zvg1 e7).1 (e11 y hy).2⟩
section
variable {h0 k:Hp}
theorem Has.slMap {α β:Type} {sz:Nat} {enc:α->List Value} {enc':β->List Value} {l:Sl} {xs:List α} (f:α->β) (he:∀x,enc x=enc' (f x)) (o:Has h0 (SlA sz enc l xs) k):Has h0 (SlA sz enc' l (xs.map f)) k:=by
 refine o.map fun kk F h=> ?_
 obtain ⟨h1,h2,h3⟩:=h
 refine ⟨by rw [List.length_map];exact h1,h2,h3.imp id ?_⟩
 rintro ⟨b,off,cs,e1,e2,e3,e4,e5⟩
 refine ⟨b,off,cs,e1,e2,e3,e4,by rw [e5,List.flatMap_map];congr 1;funext x;exact he x⟩
theorem zoa1 {h:Hp} {t:Sl} {xs:List Int} {n:Int} {Q:Option Addr->Int->Int->Hp->Prop} (r:Is h t xs) (h1:1<=n) (h8:n<=8) (hne:xs≠ []) (hl:xs.length<=64) (hall:∀x∈xs,0<=x/\x<n)
  (hq:∀p i s h',h<=h'->LdIs h' p [s.v,.int .i64 n]->Is h' s xs->Q (some p) 0 i h'):zms prog t n Q h:=by
 unfold zms
 have hlen:=r.1
 have hpos:0<xs.length:=List.length_pos_iff.2 hne
 intro b ty hn
 have hle:=zcv (o:=.cells (#[Value.int .i64 n]) ty (0,0)) hn
 have hld:LdIs (h.set b (.cells (#[Value.int .i64 n]) ty (0,0))) ⟨b,0,none⟩ [.int .i64 n]:=zqf (cs:=[Value.int .i64 n])
 refine ld_at (sh:=shInt .i64) n hld ?_
 refine ⟨n,fun _=>hld,?_⟩
 refine letW (letW ?_)
 rw [if_neg (by simp;omega),if_neg (by simp;omega)]
 have hany:(xs.any fun x=>decide (x<0) || decide (x>=n))=false:=by
  rw [List.any_eq_false]
  intro x hx
  have:=hall x hx
  simp;omega
 refine zfd (f:=⟨ziu, #[], #[.pointer (some ⟨b,0,none⟩)]⟩) (zbm1 (p:=fun x=>decide (x<0) || decide (x>=n)) (Rw.mono hle r) (by omega) (fun x _ k K hk hK=> ?_) fun i h' hle' hi=> ?_)
 ·refine zkq1 (g:=ziu) rfl (zrx ?_)
  unfold zqt
  refine ⟨n,fun _=>zbp hk hld,letW (hK k hk)⟩
 ·dsimp only
  rw [hany] at hi
  rw [if_neg (fun e=>by have:=hi.1 (of_decide_eq_true e);cases this)]
  refine ld_at (sh:=shInt .i64) n (zbp hle' hld) ?_
  refine zcm ?_
  unfold zbe
  refine zhl (enc:=fun x:Int=>zac ((shInt .i64).enc x)) (tb_ok.und 24 ty24 rfl) (Rw.mono (Hp.le_trans hle hle') r) (by decide) (fun _=>rfl) (fun _=>rfl) rfl ⟨by omega,by omega⟩ fun out h2 hle2 ho=> ?_
  refine ⟨⟨zbp (Hp.le_trans hle' hle2) hld,trivial⟩,?_⟩
  intro b2 t2 hn2
  exact hq _ _ out _ (Hp.le_trans (Hp.le_trans hle hle') (Hp.le_trans hle2 (zcv hn2))) (zqf (cs:=[out.v,.int .i64 n])) (Rw.mono (zcv hn2) (ho.ownRw fun _=>rfl))
abbrev Six (R F G S T U:Asn):Asn:=(R.star (F.star G)).star (S.star (T.star U))
variable {R F G S T U:Asn}
theorem Has.sR (o:Has h0 (Six R F G S T U) k):∃h1,h0<=h1/\Has h1 R k/\∀R' k',Has h1 R' k'->Has h0 (Six R' F G S T U) k':=by
 obtain ⟨h1,a,b,_,c⟩:=o.fst
 obtain ⟨h2,a2,b2,c2⟩:=b.f1
 exact ⟨h2,Hp.le_trans a a2,b2,fun _ _ o'=>c _ _ (c2 _ _ o')⟩
theorem Has.sF (o:Has h0 (Six R F G S T U) k):∃h1,h0<=h1/\Has h1 F k/\∀F' k',Has h1 F' k'->Has h0 (Six R F' G S T U) k':=by
 obtain ⟨h1,a,b,_,c⟩:=o.fst
 obtain ⟨h2,a2,b2,c2⟩:=b.f2
 exact ⟨h2,Hp.le_trans a a2,b2,fun _ _ o'=>c _ _ (c2 _ _ o')⟩
theorem Has.sG (o:Has h0 (Six R F G S T U) k):∃h1,h0<=h1/\Has h1 G k/\∀G' k',Has h1 G' k'->Has h0 (Six R F G' S T U) k':=by
 obtain ⟨h1,a,b,_,c⟩:=o.fst
 obtain ⟨h2,a2,b2,c2⟩:=b.f3
 exact ⟨h2,Hp.le_trans a a2,b2,fun _ _ o'=>c _ _ (c2 _ _ o')⟩
theorem Has.sS (o:Has h0 (Six R F G S T U) k):∃h1,h0<=h1/\Has h1 S k/\∀S' k',Has h1 S' k'->Has h0 (Six R F G S' T U) k':=by
 obtain ⟨h1,a,b,_,c⟩:=o.snd
 obtain ⟨h2,a2,b2,c2⟩:=b.f1
 exact ⟨h2,Hp.le_trans a a2,b2,fun _ _ o'=>c _ _ (c2 _ _ o')⟩
theorem Has.sT (o:Has h0 (Six R F G S T U) k):∃h1,h0<=h1/\Has h1 T k/\∀T' k',Has h1 T' k'->Has h0 (Six R F G S T' U) k':=by
 obtain ⟨h1,a,b,_,c⟩:=o.snd
 obtain ⟨h2,a2,b2,c2⟩:=b.f2
 exact ⟨h2,Hp.le_trans a a2,b2,fun _ _ o'=>c _ _ (c2 _ _ o')⟩
theorem Has.sU (o:Has h0 (Six R F G S T U) k):∃h1,h0<=h1/\Has h1 U k/\∀U' k',Has h1 U' k'->Has h0 (Six R F G S T U') k':=by
 obtain ⟨h1,a,b,_,c⟩:=o.snd
 obtain ⟨h2,a2,b2,c2⟩:=b.f3
 exact ⟨h2,Hp.le_trans a a2,b2,fun _ _ o'=>c _ _ (c2 _ _ o')⟩
def PartP (q:Addr) (own:Sl) (n:Nat) (y:PPart) (tm:Nat->Int):Asn:=.some_ fun x:S_machine_part=>.some_ fun lp:Addr=>.some_ fun wp:Addr=>
 ((RecA zbg q x).star ((SlA 3 eEn x.log y.log).star ((zek lp y.owners y.queues).star (znj wp tm (2*n))))).star (.fact (x.procs=own/\x.cursor=y.cursor/\x.lost=y.lost/\x.forbidden=y.forbidden/\x.locks=some lp/\x.wheel=some wp))
def ProcP (q:Addr) (p i:Nat) (code:Sl) (room:Int) (y:PProcess):Asn:=.some_ fun z:S_machine_proc=>.some_ fun a:Addr=>
 ((RecA sh_machine_proc q z).star (PostA a room y.lanes y.cursor)).star (.fact (z.id_=(p:Int)/\z.part=(i:Int)/\z.code=code/\z.state=y.state/\zau (coreX z)=y.core/\z.fired=y.fired/\z.post=some a))
theorem Has.ofPart {q lp wp:Addr} {x:S_machine_part} {n:Nat} {y:PPart} {tm:Nat->Int} (o:Has h0 ((((zek lp y.owners y.queues).star (SlA 3 eEn x.log y.log)).star (znj wp tm (2*n))).star (RecA zbg q x)) k)
  (e:x.cursor=y.cursor/\x.lost=y.lost/\x.forbidden=y.forbidden/\x.locks=some lp/\x.wheel=some wp):Has h0 (PartP q x.procs n y tm) k:=by
 refine Has.ex.2 ⟨x,Has.ex.2 ⟨lp,Has.ex.2 ⟨wp,Has.withFact ?_ ⟨rfl,e⟩⟩⟩⟩
 refine o.map fun kk F h=> ?_
 exact zpb (fun _ h=>h) (fun _ h=>zum (zpb (fun _ h=>zpa h) (fun _ h=>h) h)) (zpa h)
theorem Has.ofProc {q a:Addr} {z:S_machine_proc} {room:Int} {p i:Nat} {y:PProcess} (o:Has h0 ((PostA a room y.lanes y.cursor).star (RecA sh_machine_proc q z)) k)
  (e:z.id_=(p:Int)/\z.part=(i:Int)/\z.state=y.state/\zau (coreX z)=y.core/\z.fired=y.fired/\z.post=some a):Has h0 (ProcP q p i z.code room y) k:=
 Has.ex.2 ⟨z,Has.ex.2 ⟨a,Has.withFact o.comm ⟨e.1,e.2.1,rfl,e.2.2⟩⟩⟩
theorem zob1 {q:Addr} {own:Sl} {n id:Nat} {y:PPart} {tm:Nat->Int} {v:Int} {g:FuncId} {args:List Value} {K:Hp->Prop} (o:Has h0 (PartP q own n y tm) k) (hn:n<=1000) (hid:id<2*n) (hz:tm id=0) (hv:0<=v)
  (hc:∀ {Q:Int->Hp->Prop},Q (id:Int) k->CallT prog g args (shInt .i64) Q k) (hk:∀k',Has h0 (PartP q own n y (fset tm id v)) k'->K k'):
  (if (decide (v>(0:Int)))=true then
 NilW none (some q) fun p8=>
 LdW none shPtr k (Addr.add p8 6) fun x7=>
 CallT prog g args (shInt .i64) (fun r11 h17=>
 (((LdIs h17 (Addr.add p8 6) [(.pointer x7)])/\(True/\True))/\CallT prog zaz [(.pointer x7),(.int .i64 r11),(.int .i64 v)] (shInt .i64) (fun r12 h18=>
 K h18) h17)) k
 else
 K k):=by
 by_cases h:v>0
 ·rw [if_pos (decide_eq_true h)]
  obtain ⟨x,o⟩:=Has.ex.1 o
  obtain ⟨lp,o⟩:=Has.ex.1 o
  obtain ⟨wp,o⟩:=Has.ex.1 o
  obtain ⟨o,e⟩:=o.noFact
  refine zaa ((Has.left o).ld (shf:=shPtr) x.wheel rfl ?_)
  refine hc ⟨⟨(Has.left o).ldis (off:=6) (n:=1) (vs:=[.pointer x.wheel]) rfl,trivial,trivial⟩,?_⟩
  obtain ⟨h1,l1,o1,_,put⟩:=o.snd
  obtain ⟨h2,l2,o2,put2⟩:=o1.f3
  rw [e.2.2.2.2.2]
  refine zhf (zkx1 o2 (by omega) hid h fun k' o'=>hk k' ?_)
  exact Has.ex.2 ⟨x,Has.ex.2 ⟨lp,Has.ex.2 ⟨wp,(put _ _ (put2 _ _ o')).withFact e⟩⟩⟩
 ·rw [if_neg (by simpa using h)]
  have:v=0:=by omega
  subst this
  rw [show fset tm id 0=tm from funext fun j=>by unfold fset;split<;>simp_all] at hk
  exact hk k o
def ofJ (c:PCfg) (i j:Nat):List Nat:=(List.range j).filter fun q=>decide (pOf c q=i)
theorem ztm1 {c:PCfg} {i j:Nat}:ofJ c i (j+1)=if pOf c j=i then ofJ c i j++ [j] else ofJ c i j:=by
 unfold ofJ
 rw [List.range_succ,List.filter_append]
 split
 ·rename_i h;simp [h]
 ·rename_i h;simp [h]
end
structure LayV (c:PCfg) (t:zcf):Prop where
 parts:t.parts.length=nP c
 procs:t.procs.length=nQ c
 part:∀x∈t.parts,zdr2 x.owners x.queues/\x.log.length<=4096
 proc:∀x∈t.procs,x.lanes.length=nP c+1/\(0<=x.cursor/\x.cursor<x.lanes.length)/\(∀l∈x.lanes,LnV c.lane l)/\0<=x.timer/\0<=x.wake
section
variable {h0 h1 k:Hp} {c:PCfg} {t:zcf}
abbrev ztn1 (c:PCfg) (t:zcf) (pts:List Addr) (own:Nat->Sl) (tm:Nat->Nat->Int) (i:Nat):Asn:=Asn.first (fun i=>PartP (pts.getD i a0) (own i) (nQ c) (t.parts.getD i part0) (tm i)) i
abbrev zab2 (c:PCfg) (t:zcf) (prs:List Addr) (code:Nat->Sl) (j:Nat):Asn:=Asn.first (fun p=>ProcP (prs.getD p a0) p (pOf c p) (code p) c.lane (t.procs.getD p proc0)) j
abbrev ownF (c:PCfg) (own:Nat->Sl) (j i:Nat):Asn:=Asn.first (fun i=>SlA 1 eNum (own i) ((ofJ c i j).map fun (q:Nat)=>(q:Int))) i
abbrev LaidA (c:PCfg) (t:zcf) (pm:Addr) (x:S_machine_Machine) (pts prs:List Addr) (own code:Nat->Sl) (i j:Nat) (tm:Nat->Nat->Int):Asn:=
 Six (RecA zdn pm x) (ztn1 c t pts own tm i) (zab2 c t prs code j) (SlA 1 eP x.parts pts) (SlA 1 eP x.procs prs) (ownF c own j i)
def zps (x:S_machine_Machine) (l:Sl):S_machine_Machine:={x with parts:=l}
def zvs (x:S_machine_Machine) (l:Sl):S_machine_Machine:={x with procs:=l}
variable {pm:Addr} {x:S_machine_Machine} {pts prs:List Addr} {own code:Nat->Sl} {tm:Nat->Nat->Int}
theorem zto1 {α:Type} {l:List α} {a d:α} {i:Nat} (h:i<l.length):(l++ [a]).getD i d=l.getD i d:=by simp [List.getD,List.getElem?_append_left h]
theorem ztp1 {α:Type} {l:List α} {a d:α} {i:Nat} (h:i=l.length):(l++ [a]).getD i d=a:=by simp [List.getD,h]
theorem zwa1 {s:S_api_State} {i:Nat} {Q:Hp->Prop} (b:StateAt h0 s t) (v:LayV c t) (mc:CfgM c) (hi:i<nP c) (hp:pts.length=i) (ex:x.procs=⟨none,0,0⟩)
  (o:Has h0 (LaidA c t pm x pts [] (fun _=>⟨none,0,0⟩) code i 0 (fun _ _=>0)) k)
  (hk:∀l a k',Has h0 (LaidA c t pm (zps x l) (pts++ [a]) [] (fun _=>⟨none,0,0⟩) code (i+1) 0 (fun _ _=>0)) k'->Q k'):
  ((InB s.Parts.base s.Parts.len (i:Int))/\LdW none sh_api_Part k (sat s.Parts.base 6 (i:Int)) fun x=>
 Call2 prog zqn [x.Owners.v,x.Queues.v] shPtr (shInt .i64) (fun r7 r8 h8=>
 NilW none (some pm) fun p2=>
 LdW none shSl h8 (Addr.add p2 10) fun x1=>
 CallT prog zat [x.Log.v] shSl (fun r9 h9=>
 (((LdIs h9 (Addr.add p2 10) [x1.v])/\(True/\(True/\(True/\True))))/\CallT prog zwf [] shPtr (fun r10 h10=>
 (((LdIs h10 (Addr.add p2 10) [x1.v])/\(True/\(True/\(True/\True))))/\NewW [(.slice none 0 0),(.int .i64 x.Cursor),r9.v,(.int .i64 x.Lost),(.int .i64 x.Forbidden),(.pointer r7),(.pointer r10)] (fun a1 h11=>
 (((LdIs h11 (Addr.add p2 10) [x1.v])/\True)/\NewW [(.pointer (some a1))] (fun a2 h12=>
 (((LdIs h12 (Addr.add p2 10) [x1.v])/\True)/\zap 1 8 [(.pointer none)] x1 ⟨(some a2),1,1⟩ (fun r11 h13=>
 NilW none (some pm) fun p3=>
 StW h13 (Addr.add p3 10) [r11.v] (fun h14=>
 Q h14)) h12)) h11)) h10)) h9)) h8) k):=by
 obtain ⟨ps,hps,hall⟩:=b.parts
 have hpl:=hall.len
 have e1:=v.parts
 have hparts:=mc.parts
 refine Rs.get (sh:=sh_api_Part) (Rw.mono o.le hps) (fun _=>rfl) (by omega) (by omega) (by omega) fun (y:S_api_Part) hy=> ?_
 rw [Int.toNat_natCast] at hy
 obtain ⟨z,hz,hat⟩:=hall.get hy
 have hzm:=List.mem_of_getElem? hz
 obtain ⟨lv,ll⟩:=v.part z hzm
 have at1:=hat.mono o.le
 obtain ⟨qs,hqs,hq2⟩:=at1.queues
 refine zgy1 (zbw2 lv at1.owners hqs hq2 fun lp k2 l2 o2=> ?_)
 have on:=o.grow l2
 obtain ⟨g1,m1,oR,putR⟩:=on.sR
 refine zaa (oR.ld (shf:=shSl) x.parts rfl ?_)
 have at2:=at1.mono l2
 obtain ⟨es,hes,hm⟩:=at2.log
 have hel:es.length=z.log.length:=by rw [<-hm,List.length_map]
 refine zcz ?_
 unfold zbu
 refine zhl (enc:=fun x=>zac (sh_api_Entry.enc x)) (tb_ok.und 63 ty63 rfl) hes (by decide) (fun _=>rfl) (fun _=>rfl) rfl ⟨by omega,by omega⟩ fun ll k3 l3 o3=> ?_
 refine ⟨⟨(oR.grow l3).ldis (off:=10) (n:=1) (vs:=[x.parts.v]) rfl,trivial,trivial,trivial,trivial⟩,?_⟩
 have o3:Has k2 (SlA 3 eEn ll z.log) k3:=by
  rw [<-hm]
  exact o3.ownSl.slMap zni fun _=>rfl
 refine zgz1 (zcd2 (n:=2*nQ c) fun wp k4 l4 o4=> ?_)
 refine ⟨⟨((oR.grow l3).grow l4).ldis (off:=10) (n:=1) (vs:=[x.parts.v]) rfl,trivial,trivial,trivial,trivial⟩,?_⟩
 refine zdy1 (sh:=zbg) (⟨⟨none,0,0⟩,y.Cursor,ll,y.Lost,y.Forbidden,some lp,some wp⟩:S_machine_part) rfl fun q k5 l5 o5=> ?_
 refine ⟨⟨(((oR.grow l3).grow l4).grow l5).ldis (off:=10) (n:=1) (vs:=[x.parts.v]) rfl,trivial⟩,?_⟩
 have oN:Has k (PartP q ⟨none,0,0⟩ (nQ c) z (fun _=>0)) k5:=Has.ofPart (x:=(⟨⟨none,0,0⟩,y.Cursor,ll,y.Lost,y.Forbidden,some lp,some wp⟩:S_machine_part)) (((o2.beside o3).beside o4).beside o5) ⟨hat.cursor,hat.lost,hat.forbidden,rfl,rfl⟩
 obtain ⟨g2,m2,oF,putF⟩:=o.sF
 have oA:=putF _ _ (oF.beside oN)
 refine newSl (enc:=eP) (xs:=[q]) rfl (fun _=>rfl) fun a2 k6 l6 o6=> ?_
 obtain ⟨g3,m3,oR6,_⟩:=(oA.grow l6).sR
 refine ⟨⟨oR6.ldis (off:=10) (n:=1) (vs:=[x.parts.v]) rfl,trivial⟩,?_⟩
 obtain ⟨g4,m4,oS,putS⟩:=(oA.grow l6).sS
 refine oS.app (o6.srw fun _=>rfl) (fun _=>rfl) (fun _=>rfl) rfl ⟨by rw [hp,List.length_singleton];omega,by rw [hp,List.length_singleton];omega⟩ fun l' k7 o7=> ?_
 have oB:=putS _ _ o7
 obtain ⟨g5,m5,oR7,putR7⟩:=oB.sR
 refine zaa (oR7.st (zps x l') (off:=10) (new:=[l'.v]) (by show 10+1<=12;omega) rfl fun k8 o8=>hk l' q k8 ?_)
 have oC:=putR7 _ _ o8
 obtain ⟨g6,m6,oU,putU⟩:=oC.sU
 have oD:=putU _ _ (oU.beside (Has.nilSl (sz:=1) (enc:=eNum) (Hp.le_refl _)))
 refine cast ?_ oD
 congr 1
 have eF:(ztn1 c t pts (fun _=>⟨none,0,0⟩) (fun _ _=>0) i).star (PartP q ⟨none,0,0⟩ (nQ c) z fun _=>0)=ztn1 c t (pts++ [q]) (fun _=>⟨none,0,0⟩) (fun _ _=>0) (i+1):=by
  show _=(Asn.first (fun i=>PartP ((pts++ [q]).getD i a0) ⟨none,0,0⟩ (nQ c) (t.parts.getD i part0) fun _=>0) i).star (PartP ((pts++ [q]).getD i a0) ⟨none,0,0⟩ (nQ c) (t.parts.getD i part0) fun _=>0)
  rw [ztp1 hp.symm,zdm hz]
  congr 1
  exact zbn fun j hj=>by rw [zto1 (by omega)]
 rw [eF]
 rfl
theorem zwb1 {s:S_api_State} {co:S_api_Config} {j:Nat} {ci:List S_api_Proc} {Q:Hp->Prop} (b:StateAt h0 s t) (v:LayV c t) (mc:CfgM c) (hj:j<nQ c) (hp:prs.length=j) (hpt:pts.length=nP c)
  (elane:co.Lane=c.lane) (hci:Rs h0 sh_api_Proc 2 x.c_Procs ci) (hca:All2 (ProcAt h0) ci c.procs) (hcode:∀(p:Nat) y,ci[p]?=some y->code p=y.Code)
  (htm:∀i id,i<nP c->tm i id=if id / 2<j then zfw c (msOf t) i id else 0)
  (o:Has h0 (LaidA c t pm x pts prs own code (nP c) j tm) k)
  (hk:∀l a own' tm' k',(∀i id,i<nP c->tm' i id=if id / 2<j+1 then zfw c (msOf t) i id else 0)->Has h0 (LaidA c t pm (zvs x l) pts (prs++ [a]) own' code (nP c) (j+1) tm') k'->Q k'):
  ((InB s.Procs.base s.Procs.len (j:Int))/\LdW none sh_api_Process k (sat s.Procs.base 15 (j:Int)) fun x=>
 NilW none (some pm) fun p2=>
 LdW none shSl k (Addr.add (Addr.add p2 0) 6) fun x1=>
 ((InB x1.base x1.len (j:Int))/\LdW none sh_api_Proc k (sat x1.base 2 (j:Int)) fun x2=>
 Call2 prog zuo [(.int .i64 co.Lane),x.Lanes.v,(.int .i64 x.Cursor)] shPtr (shInt .i64) (fun r7 r8 h9=>
 NilW none (some pm) fun p3=>
 LdW none shSl h9 (Addr.add p3 11) fun x3=>
 NewW [(.int .i64 (j:Int)),(.int .i64 x2.Part),x2.Code.v,(.int .i64 x.State),(.int .i64 x.PC),(.int .i64 x.Regs_0),(.int .i64 x.Regs_1),(.int .i64 x.Regs_2),(.int .i64 x.Regs_3),(.int .i64 x.Regs_4),(.int .i64 x.Regs_5),(.int .i64 x.Regs_6),(.int .i64 x.Regs_7),(.bool x.Fired),(.pointer r7)] (fun a1 h10=>
 (((LdIs h10 (Addr.add p3 11) [x3.v])/\True)/\NewW [(.pointer (some a1))] (fun a2 h11=>
 (((LdIs h11 (Addr.add p3 11) [x3.v])/\True)/\zap 1 8 [(.pointer none)] x3 ⟨(some a2),1,1⟩ (fun r9 h12=>
 NilW none (some pm) fun p4=>
 StW h12 (Addr.add p4 11) [r9.v] (fun h13=>
 NilW none (some pm) fun p5=>
 LdW none shSl h13 (Addr.add p5 10) fun x4=>
 ((InB x4.base x4.len x2.Part)/\LdW none shPtr h13 (sat x4.base 1 x2.Part) fun x5=>
 NilW none x5 fun p6=>
 LdW none shSl h13 (Addr.add p6 0) fun x6=>
 NewW [(.int .i64 (j:Int))] (fun a3 h14=>
 zap 1 8 [(.int .i64 (0:Int))] x6 ⟨(some a3),1,1⟩ (fun r10 h15=>
 NilW none x5 fun p7=>
 StW h15 (Addr.add p7 0) [r10.v] (fun h16=>
 JoinW0 (fun k1=>
 (if (decide (x.Timer>(0:Int)))=true then
 NilW none x5 fun p8=>
 LdW none shPtr h16 (Addr.add p8 6) fun x7=>
 CallT prog zbh [(.int .i64 (j:Int))] (shInt .i64) (fun r11 h17=>
 (((LdIs h17 (Addr.add p8 6) [(.pointer x7)])/\(True/\True))/\CallT prog zaz [(.pointer x7),(.int .i64 r11),(.int .i64 x.Timer)] (shInt .i64) (fun r12 h18=>
 k1 h18) h17)) h16
 else
 k1 h16))
 (fun h17=>
 (if (decide (x.Wake>(0:Int)))=true then
 NilW none x5 fun p8=>
 LdW none shPtr h17 (Addr.add p8 6) fun x7=>
 CallT prog zcb [(.int .i64 (j:Int))] (shInt .i64) (fun r11 h18=>
 (((LdIs h18 (Addr.add p8 6) [(.pointer x7)])/\(True/\True))/\CallT prog zaz [(.pointer x7),(.int .i64 r11),(.int .i64 x.Wake)] (shInt .i64) (fun r12 h19=>
 Q h19) h18)) h17
 else
 Q h17)))) h14) h13))) h11)) h10)) h9) k)):=by
 obtain ⟨ps,hps,hall⟩:=b.procs
 have hpl:=hall.len
 have e1:=v.procs
 have hparts:=mc.parts
 have hprocs:=mc.procs
 refine Rs.get (sh:=sh_api_Process) (Rw.mono o.le hps) (fun _=>rfl) (by omega) (by omega) (by omega) fun (y:S_api_Process) hy=> ?_
 rw [Int.toNat_natCast] at hy
 obtain ⟨z,hz,hat⟩:=hall.get hy
 have hzm:=List.mem_of_getElem? hz
 obtain ⟨v1,v2,v3,v4,v5⟩:=v.proc z hzm
 obtain ⟨g1,m1,oR,putR⟩:=o.sR
 refine zaa (oR.ld (shf:=shSl) x.c_Procs (off:=6) rfl ?_)
 have hcl:=hca.len
 have hnq:nQ c=c.procs.length:=rfl
 refine Rs.get (sh:=sh_api_Proc) (Rw.mono o.le hci) (fun _=>rfl) (by omega) (by omega) (by omega) fun (cy:S_api_Proc) hcy=> ?_
 rw [Int.toNat_natCast] at hcy
 obtain ⟨cz,hcz,cpart,_⟩:=hca.get hcy
 have hczm:=List.mem_of_getElem? hcz
 have hpart:=mc.part cz hczm
 have epOf:pOf c j=cz.part.toNat:=by unfold pOf;rw [hcz];rfl
 have ecode:=hcode j cy hcy
 rw [cpart]
 have at1:=hat.mono o.le
 obtain ⟨ls,hls,hla⟩:=at1.lanes
 have hlan:=mc.lane
 rw [elane,hat.cursor]
 refine zkh1 (zeq2 hlan (by omega) v2 hls hla v3 fun a k2 l2 o2=> ?_)
 refine zaa ((oR.grow l2).ld (shf:=shSl) x.procs rfl ?_)
 refine zdy1 (sh:=sh_machine_proc) (⟨(j:Int),cz.part,cy.Code,y.State,y.PC,y.Regs_0,y.Regs_1,y.Regs_2,y.Regs_3,y.Regs_4,y.Regs_5,y.Regs_6,y.Regs_7,y.Fired,some a⟩:S_machine_proc) rfl fun q k3 l3 o3=> ?_
 refine ⟨⟨((oR.grow l2).grow l3).ldis (off:=11) (n:=1) (vs:=[x.procs.v]) rfl,trivial⟩,?_⟩
 have ecore:zau (coreX (⟨(j:Int),cz.part,cy.Code,y.State,y.PC,y.Regs_0,y.Regs_1,y.Regs_2,y.Regs_3,y.Regs_4,y.Regs_5,y.Regs_6,y.Regs_7,y.Fired,some a⟩:S_machine_proc))=z.core:=by
  show (⟨y.PC,[y.Regs_0,y.Regs_1,y.Regs_2,y.Regs_3,y.Regs_4,y.Regs_5,y.Regs_6,y.Regs_7]⟩:Core)=⟨z.pc,z.regs⟩
  rw [hat.pc,hat.regs]
 have oN:Has k (ProcP q j (pOf c j) (code j) c.lane z) k3:=by
  rw [ecode]
  exact Has.ofProc (z:=(⟨(j:Int),cz.part,cy.Code,y.State,y.PC,y.Regs_0,y.Regs_1,y.Regs_2,y.Regs_3,y.Regs_4,y.Regs_5,y.Regs_6,y.Regs_7,y.Fired,some a⟩:S_machine_proc)) (o2.beside o3) ⟨rfl,by show cz.part=_;omega,hat.state,ecore,hat.fired,rfl⟩
 obtain ⟨g2,m2,oG,putG⟩:=o.sG
 have oA:=putG _ _ (oG.beside oN)
 refine newSl (enc:=eP) (xs:=[q]) rfl (fun _=>rfl) fun a2 k4 l4 o4=> ?_
 obtain ⟨g3,m3,oR4,_⟩:=(oA.grow l4).sR
 refine ⟨⟨oR4.ldis (off:=11) (n:=1) (vs:=[x.procs.v]) rfl,trivial⟩,?_⟩
 obtain ⟨g4,m4,oT,putT⟩:=(oA.grow l4).sT
 refine oT.app (o4.srw fun _=>rfl) (fun _=>rfl) (fun _=>rfl) rfl ⟨by rw [hp,List.length_singleton];omega,by rw [hp,List.length_singleton];omega⟩ fun l' k5 o5=> ?_
 have oB:=putT _ _ o5
 obtain ⟨g5,m5,oR5,putR5⟩:=oB.sR
 refine zaa (oR5.st (zvs x l') (off:=11) (new:=[l'.v]) (by show 11+1<=12;omega) rfl fun k6 o6=> ?_)
 have oC:=putR5 _ _ o6
 obtain ⟨g6,m6,oR6,putR6⟩:=oC.sR
 refine zaa (oR6.ld (shf:=shSl) x.parts rfl ?_)
 have hi:pOf c j<nP c:=by omega
 obtain ⟨g7,m7,oS,_⟩:=oC.sS
 have rs:Rs k6 shPtr 1 x.parts (pts.map some):=(oS.srw (fun _=>rfl)).map (f:=some) (enc:=fun x=>zac (shPtr.enc x))
 refine rs.get (fun _=>rfl) (by omega) (by omega) (by rw [List.length_map];omega) fun (w:Option Addr) hw=> ?_
 have ew:w=some (pts.getD (pOf c j) a0):=by
  rw [<-epOf,List.getElem?_map,List.getElem?_eq_getElem (show pOf c j<pts.length by omega)] at hw
  simp at hw
  rw [<-hw]
  congr 1
  simp [List.getD,List.getElem?_eq_getElem (show pOf c j<pts.length by omega)]
 subst ew
 obtain ⟨g8,m8,oF,putF⟩:=oC.sF
 obtain ⟨g9,m9,oP,_,putP⟩:=oF.one hi
 obtain ⟨px,oP⟩:=Has.ex.1 oP
 obtain ⟨lp,oP⟩:=Has.ex.1 oP
 obtain ⟨wp,oP⟩:=Has.ex.1 oP
 obtain ⟨oP,eP⟩:=oP.noFact
 refine zaa ((Has.left oP).ld (shf:=shSl) (off:=0) px.procs rfl ?_)
 rw [eP.1]
 obtain ⟨g10,m10,oU,putU⟩:=oC.sU
 obtain ⟨g11,m11,oO,_,putO⟩:=oU.one hi
 have hlo:((ofJ c (pOf c j) j).map fun (q:Nat)=>(q:Int)).length<=j:=by
  rw [List.length_map]
  exact Nat.le_trans (List.length_filter_le ..) (by rw [List.length_range];omega)
 refine oO.push (e:=(j:Int)) rfl (fun _=>rfl) (fun _=>rfl) rfl ⟨by omega,by omega⟩ fun lo k7 o7=> ?_
 have oD:=putU _ _ (putO _ _ o7)
 obtain ⟨g12,m12,oF2,putF2⟩:=oD.sF
 obtain ⟨g13,m13,oP2,_,putP2⟩:=oF2.one hi
 obtain ⟨px2,oP2⟩:=Has.ex.1 oP2
 obtain ⟨lp2,oP2⟩:=Has.ex.1 oP2
 obtain ⟨wp2,oP2⟩:=Has.ex.1 oP2
 obtain ⟨oP2,eP2⟩:=oP2.noFact
 obtain ⟨g14,m14,oPR,_,putPR⟩:=oP2.fst
 refine zaa (oPR.st ({px2 with procs:=lo}:S_machine_part) (off:=0) (new:=[lo.v]) (by show 0+1<=7;omega) rfl fun k8 o8=> ?_)
 have oQ:Has g13 (PartP (pts.getD (pOf c j) a0) lo (nQ c) (t.parts.getD (pOf c j) part0) (tm (pOf c j))) k8:=Has.ex.2 ⟨_,Has.ex.2 ⟨lp2,Has.ex.2 ⟨wp2,(putPR _ _ o8).withFact ⟨rfl,eP2.2⟩⟩⟩⟩
 have eti:=htm (pOf c j)
 refine JoinW0.direct ?_
 rw [hat.timer]
 refine zob1 (id:=2*j) oQ (by omega) (by omega) (by rw [eti _ hi,if_neg (by omega)]) v4 (fun h=>zdp (by unfold ziy;rw [wrap64 (by omega) (by omega)];exact cast (by congr 1) h)) fun k9 o9=> ?_
 rw [hat.wake]
 refine zob1 (id:=2*j+1) o9 (by omega) (by omega) (by rw [zbf (by omega),eti _ hi,if_neg (by omega)]) v5 (fun h=>zdq (by unfold ziz;rw [show IntKind.wrap .i64 (2*(j:Int))=2*(j:Int) from wrap64 (by omega) (by omega),wrap64 (by omega) (by omega)];exact cast (by congr 1) h)) fun k10 o10=> ?_
 have oE:=putF2 _ _ (putP2 _ _ o10)
 have etime:(msOf t).proc j=z:=zdm hz
 refine hk l' q (fset own (pOf c j) lo) (fset tm (pOf c j) (fset (fset (tm (pOf c j)) (2*j) z.timer) (2*j+1) z.wake)) k10 (fun i id hi'=> ?_) ?_
 ·by_cases e:i=pOf c j
  ·subst e
   rw [zbm]
   by_cases e2:id=2*j+1
   ·subst e2
    rw [zbm,if_pos (by omega)]
    unfold zfw
    rw [show (2*j+1) / 2=j by omega,if_pos ⟨hj,rfl⟩,if_neg (by omega),etime]
   ·rw [zbf e2]
    by_cases e3:id=2*j
    ·subst e3
     rw [zbm,if_pos (by omega)]
     unfold zfw
     rw [show (2*j) / 2=j by omega,if_pos ⟨hj,rfl⟩,if_pos (by omega),etime]
    ·rw [zbf e3,htm _ _ hi']
     by_cases e4:id / 2<j
     ·rw [if_pos e4,if_pos (by omega)]
     ·rw [if_neg e4,if_neg (by omega)]
  ·rw [zbf e,htm _ _ hi']
   by_cases e4:id / 2<j
   ·rw [if_pos e4,if_pos (by omega)]
   ·rw [if_neg e4]
    split
    ·unfold zfw
     rw [if_neg ?_]
     rintro ⟨_,e5⟩
     exact e (by rw [<-e5];congr 1;omega)
    ·rfl
 ·refine cast ?_ oE
  congr 1
  have eG:(zab2 c t prs code j).star (ProcP q j (pOf c j) (code j) c.lane z)=zab2 c t (prs++ [q]) code (j+1):=by
   show _=(Asn.first (fun p=>ProcP ((prs++ [q]).getD p a0) p (pOf c p) (code p) c.lane (t.procs.getD p proc0)) j).star (ProcP ((prs++ [q]).getD j a0) j (pOf c j) (code j) c.lane (t.procs.getD j proc0))
   rw [ztp1 hp.symm,zdm hz]
   congr 1
   exact zbn fun j hj=>by rw [zto1 (by omega)]
  have eU:Asn.first (fset (fun i=>SlA 1 eNum (own i) ((ofJ c i j).map fun (q:Nat)=>(q:Int))) (pOf c j) (SlA 1 eNum lo ((ofJ c (pOf c j) j).map (fun (q:Nat)=>(q:Int))++ [(j:Int)]))) (nP c)=ownF c (fset own (pOf c j) lo) (j+1) (nP c):=by
   refine zbn fun i hi=> ?_
   by_cases e:i=pOf c j
   ·subst e;rw [zbm,zbm,ztm1,if_pos rfl,List.map_append];rfl
   ·rw [zbf e,zbf e,ztm1,if_neg (Ne.symm e)]
  have eF:Asn.first (fset (fun i=>PartP (pts.getD i a0) (own i) (nQ c) (t.parts.getD i part0) (tm i)) (pOf c j) (PartP (pts.getD (pOf c j) a0) lo (nQ c) (t.parts.getD (pOf c j) part0) (fset (fset (tm (pOf c j)) (2*j) z.timer) (2*j+1) z.wake))) (nP c)=ztn1 c t pts (fset own (pOf c j) lo) (fset tm (pOf c j) (fset (fset (tm (pOf c j)) (2*j) z.timer) (2*j+1) z.wake)) (nP c):=by
   refine zbn fun i hi=> ?_
   by_cases e:i=pOf c j
   ·subst e;rw [zbm,zbm,zbm]
   ·rw [zbf e,zbf e,zbf e]
  rw [eG,eU,eF]
  rfl
theorem zfo2 {x:S_api_Config} {s:S_api_State} {Q:Option Addr->Hp->Prop} (a:CfgAt k x c) (b:StateAt k s t) (hu:∀l∈c.labels,InU l) (he:(cfgE c).1=0) (v:LayV c t)
  (hq:∀K pm tm h1 k',K.c=c->MkOk h1 K->k<=h1->Has h1 (MachA K pm (msOf t) tm) k'->Tied c tm (msOf t)->Q (some pm) k'):zod prog x s Q k:=by
 have mc:=zge1 he
 have hm:(mayP c.labels).1=0:=by
  unfold cfgE at he
  exact (cfgP_zero.1 he).1
 unfold zod
 have hparts:=mc.parts
 have hprocs:=mc.procs
 have htab:=mc.table
 have hlab:nP c=c.labels.length:=rfl
 have hpro:nQ c=c.procs.length:=rfl
 refine zxh (zzz1 a (by omega) (by omega) (by omega) (fun y hy=>by have:=(mc.code y hy).1;omega) fun r k1 o1 e1 e2 e3 e4=> ?_)
 refine ⟨⟨trivial,trivial⟩,?_⟩
 obtain ⟨B,hB,_⟩:=(cfgOf o1 e1 e2 e3 e4).as_
 have l1:=o1.le
 have ar:CfgAt k1 r c:=hB.rd
 have a1:=a.mono l1
 have hll:x.Labels.len=c.labels.length:=a.labels.1
 refine zdy1 (sh:=zdn) (⟨r.Labels,r.Table,r.Fuel,r.Lane,r.Locks,r.Log,r.Procs,none,none,s.Tick,⟨none,0,0⟩,⟨none,0,0⟩⟩:S_machine_Machine) rfl fun pm k2 l2 o2=> ?_
 refine zim1 (s1:=shPtr) (s2:=shInt .i64) (s3:=shInt .i64) (K0:=fun p _ _ h'=>k1<=h'/\∃tp,p=some tp/\Tab h' tp c.labels) o2 (zgx1 (zek2 a1.labels (fun e=>absurd hm e) fun _ tp h' l' ht=>⟨l',tp,rfl,ht⟩)) ?_
 rintro r1 r2 r3 h3 k3 ⟨l3,tp,rfl,hT⟩ o3
 refine zaa (o3.st (⟨r.Labels,r.Table,r.Fuel,r.Lane,r.Locks,r.Log,r.Procs,some tp,none,s.Tick,⟨none,0,0⟩,⟨none,0,0⟩⟩:S_machine_Machine) (off:=7) (new:=[.pointer (some tp)]) (by show 7+1<=12;omega) rfl fun k4 o4=> ?_)
 have a3:=a1.mono l3
 refine zim1 (s1:=shPtr) (s2:=shInt .i64) (s3:=shInt .i64) (K0:=fun p _ _ h'=>h3<=h'/\∃sp,p=some sp/\∃(sl:Sl) (n:Int),LdIs h' sp [sl.v,.int .i64 n]/\Is h' sl c.table) o4 (zvo (zoa1 a3.table (n:=(x.Labels.len:Int)) (by omega) (by omega) htab.1 htab.2.1 (fun i hi=>by have:=htab.2.2 i hi;omega) fun sp i sl h' l' hl hs=>⟨l',sp,rfl,sl,_,hl,hs⟩)) ?_
 rintro r4 r5 r6 h5 k5 ⟨l5,sp,rfl,sl,sn,hL,hS⟩ o5
 refine zaa (o5.st (⟨r.Labels,r.Table,r.Fuel,r.Lane,r.Locks,r.Log,r.Procs,some tp,some sp,s.Tick,⟨none,0,0⟩,⟨none,0,0⟩⟩:S_machine_Machine) (off:=8) (new:=[.pointer (some sp)]) (by show 8+1<=12;omega) rfl fun k6 o6=> ?_)
 have l15:k1<=h5:=Hp.le_trans l3 l5
 have b5:StateAt h5 s t:=b.mono (Hp.le_trans l1 l15)
 have ar5:=ar.mono l15
 obtain ⟨ci,hci,hca⟩:=ar5.procs
 obtain ⟨code,hcode⟩:∃code:Nat->Sl,∀(p:Nat) y,ci[p]?=some y->code p=y.Code:=⟨fun p=>((ci[p]?).map (·.Code)).getD ⟨none,0,0⟩,fun p y h=>by show ((ci[p]?).map (·.Code)).getD _=_;rw [h];rfl⟩
 obtain ⟨X,hX⟩:∃X:S_machine_Machine,X=⟨r.Labels,r.Table,r.Fuel,r.Lane,r.Locks,r.Log,r.Procs,some tp,some sp,s.Tick,⟨none,0,0⟩,⟨none,0,0⟩⟩:=⟨_,rfl⟩
 rw [<-hX] at o6
 have hcl:=hca.len
 have st0:Has h5 (LaidA c t pm X [] [] (fun _=>⟨none,0,0⟩) code 0 0 (fun _ _=>0)) k6:=by
  have f1:Has k6 (Asn.fact True) k6:=Has.fact trivial (Hp.le_refl _)
  have n1:Has k6 (SlA 1 eP X.parts []) k6:=by rw [hX];exact Has.nilSl (Hp.le_refl _)
  have n2:Has k6 (SlA 1 eP X.procs []) k6:=by rw [hX];exact Has.nilSl (Hp.le_refl _)
  exact (o6.beside (f1.beside f1)).beside (n1.beside (n2.beside f1))
 obtain ⟨ps,hps,hall⟩:=b5.parts
 obtain ⟨qs,hqs,hqall⟩:=b5.procs
 have e5:=hall.len
 have e6:=hqall.len
 have e7:=v.parts
 have e8:=v.procs
 have e9:s.Parts.len=ps.length:=hps.1
 have e10:s.Procs.len=qs.length:=hqs.1
 refine LoopW1.intro (fun (i:Int) k'=>0<=i/\i<=(nP c:Int)/\∃(l:Sl) (pts:List Addr),pts.length=i.toNat/\Has h5 (LaidA c t pm (zps X l) pts [] (fun _=>⟨none,0,0⟩) code i.toNat 0 (fun _ _=>0)) k') (fun i _=>(nP c-i).toNat) ⟨by omega,by omega,X.parts,[],rfl,st0⟩ ?_
 rintro i k7 ⟨i0,i1,l,pts,hp,o⟩
 by_cases h:i<(nP c:Int)
 ·rw [if_pos (decide_eq_true (by omega))]
  have etn:((i.toNat:Nat):Int)=i:=by omega
  have key:=zwa1 (x:=zps X l) (i:=i.toNat) (Q:=fun k'=>(0<=IntKind.wrap .i64 (i+1)/\IntKind.wrap .i64 (i+1)<=(nP c:Int)/\∃(l:Sl) (pts:List Addr),pts.length=(IntKind.wrap .i64 (i+1)).toNat/\Has h5 (LaidA c t pm (zps X l) pts [] (fun _=>⟨none,0,0⟩) code (IntKind.wrap .i64 (i+1)).toNat 0 (fun _ _=>0)) k')/\(nP c-IntKind.wrap .i64 (i+1)).toNat<(nP c-i).toNat) b5 v mc (by omega) hp (by rw [hX];rfl) o fun l' a' k' o'=>by
   rw [wrap64 (by omega) (by omega)]
   refine ⟨⟨by omega,by omega,l',pts++ [a'],by rw [List.length_append,List.length_singleton];omega,?_⟩,by omega⟩
   rw [show (i+1).toNat=i.toNat+1 by omega]
   exact o'
  rw [etn] at key
  exact key
 ·rw [if_neg (fun e=>h (by have:=of_decide_eq_true e;omega))]
  have ei:i.toNat=nP c:=by omega
  rw [ei] at o hp
  refine LoopW1.intro (fun (j:Int) k'=>0<=j/\j<=(nQ c:Int)/\∃(l2:Sl) (prs:List Addr) (own:Nat->Sl) (tm:Nat->Nat->Int),prs.length=j.toNat/\(∀i id,i<nP c->tm i id=if id / 2<j.toNat then zfw c (msOf t) i id else 0)/\Has h5 (LaidA c t pm (zvs (zps X l) l2) pts prs own code (nP c) j.toNat tm) k') (fun j _=>(nQ c-j).toNat) ⟨by omega,by omega,X.procs,[],fun _=>⟨none,0,0⟩,fun _ _=>0,rfl,fun _ _ _=>(by rw [if_neg (by simp)]),o⟩ ?_
  rintro j k8 ⟨j0,j1,l2,prs,own,tm,hpr,htm,o⟩
  by_cases hj:j<(nQ c:Int)
  ·rw [if_pos (decide_eq_true (by omega))]
   have etn:((j.toNat:Nat):Int)=j:=by omega
   refine JoinW0.direct ?_
   have key:=zwb1 (x:=zvs (zps X l) l2) (j:=j.toNat) (Q:=fun k'=>(0<=IntKind.wrap .i64 (j+1)/\IntKind.wrap .i64 (j+1)<=(nQ c:Int)/\∃(l2:Sl) (prs:List Addr) (own:Nat->Sl) (tm:Nat->Nat->Int),prs.length=(IntKind.wrap .i64 (j+1)).toNat/\(∀i id,i<nP c->tm i id=if id / 2<(IntKind.wrap .i64 (j+1)).toNat then zfw c (msOf t) i id else 0)/\Has h5 (LaidA c t pm (zvs (zps X l) l2) pts prs own code (nP c) (IntKind.wrap .i64 (j+1)).toNat tm) k')/\(nQ c-IntKind.wrap .i64 (j+1)).toNat<(nQ c-j).toNat) b5 v mc (by omega) hpr hp a.lane (by rw [hX];exact hci) hca hcode htm o fun l' a' own' tm' k' ht' o'=>by
    rw [wrap64 (by omega) (by omega),show (j+1).toNat=j.toNat+1 by omega]
    exact ⟨⟨by omega,by omega,l',prs++ [a'],own',tm',by rw [List.length_append,List.length_singleton];omega,ht',o'⟩,by omega⟩
   rw [etn] at key
   exact key
  ·rw [if_neg (fun e=>hj (by have:=of_decide_eq_true e;omega))]
   have ej:j.toNat=nQ c:=by omega
   rw [ej] at o hpr htm
   obtain ⟨h9,l9,o9,⟨F2,hF2,hn2⟩,_⟩:=o.fst
   have oB:Has h5 ((SlA 1 eP (zvs (zps X l) l2).parts pts).star ((SlA 1 eP (zvs (zps X l) l2).procs prs).star (ownF c own (nQ c) (nP c)))) h9:=⟨l9,F2,hF2,hn2⟩
   have ar9:=ar5.mono l9
   have hins:∀p:Nat,∃is:List S_api_Ins,∀y,ci[p]?=some y->InsS h9 y.Code is/\is.map insOf=zbz c p:=fun p=>by
    cases hy:ci[p]? with
    | none=>exact ⟨[],fun y e=>by cases e⟩
    | some y=>
     obtain ⟨cz,hcz,_,is,h1,h2⟩:=hca.get hy
     refine ⟨is,fun y' e=> ?_⟩
     cases e
     exact ⟨Rw.mono l9 h1,by rw [h2];unfold zbz;rw [hcz];rfl⟩
   obtain ⟨ins,hins⟩:=Classical.axiomOfChoice hins
   refine hq ⟨c,zvs (zps X l) l2,tp,sp,pts,prs,own,code,ins⟩ pm tm h9 k8 rfl ?_ (Hp.le_trans (Hp.le_trans l1 l15) l9) ?_ (fun i id hi=> ?_)
   ·refine ⟨he,hu,?_,by rw [hX];rfl,hT.mono (Hp.le_trans l5 l9),by rw [hX];rfl,⟨sl,sn,zbp l9 hL,Rw.mono l9 hS⟩,hp,(oB.left.srw fun _=>rfl).map (f:=some) (enc:=fun x=>zac (shPtr.enc x)),hpr,(oB.right.left.srw fun _=>rfl).map (f:=some) (enc:=fun x=>zac (shPtr.enc x)),fun i hi=> ?_,fun p hp=> ?_,fun p hp=>mc.pOf_lt⟩
    ·rw [hX];exact ar9
    ·exact ((oB.right.right.at_ hi).srw fun _=>rfl)
    ·have hp':p<ci.length:=by
      have:p<nQ c:=hp
      omega
     have hy:=List.getElem?_eq_getElem hp'
     dsimp only
     rw [hcode p _ hy]
     exact hins p _ hy
   ·have et:tickX (zvs (zps X l) l2) (msOf t).tick=zvs (zps X l) l2:=by
     have e:X.tick=(msOf t).tick:=by rw [hX];exact b.tick
     rw [<-e]
     rfl
    unfold MachA
    dsimp only
    rw [et]
    exact o9
   ·rw [htm i id hi]
    split
    ·rfl
    ·unfold zfw
     rw [if_neg]
     omega
end
section
variable {c:PCfg} {fl:Nat->Nat->Bool} {t:zcf} {T:Int}
theorem zfp2 (m:CfgM c) (g:Good c fl (msOf t) No No T) (hp:t.parts.length=nP c) (hq:t.procs.length=nQ c):LayV c t:=by
 have sa:=g.sane m
 have gp:∀i x,t.parts[i]?=some x->i<nP c/\(msOf t).part i=x:=fun i x h=>⟨by rw [<-hp];exact (List.getElem?_eq_some_iff.1 h).1,zdm h⟩
 have gq:∀i x,t.procs[i]?=some x->i<nQ c/\(msOf t).proc i=x:=fun i x h=>⟨by rw [<-hq];exact (List.getElem?_eq_some_iff.1 h).1,zdm h⟩
 have hlocks:=m.locks
 refine ⟨hp,hq,fun x hx=> ?_,fun x hx=> ?_⟩
 ·obtain ⟨i,hi⟩:=List.mem_iff_getElem?.1 hx
  obtain ⟨hi1,rfl⟩:=gp i x hi
  have sp:=sa.part i hi1
  have pm:=g.part i hi1
  refine ⟨⟨⟨sp.ownl,by have:=pm.ownl;omega⟩,fun o ho=> ?_,fun k o q ho hq'=> ?_,fun k1 k2 q q' h1 h2 hlt z hz hz'=> ?_⟩,sp.logl⟩
  ·obtain ⟨k,hk⟩:=List.mem_iff_getElem?.1 ho
   rcases g.own i hi1 k o hk with h | h<;>omega
  ·obtain ⟨g1,g2,g3⟩:=g.que i hi1 k q hq'
   refine ⟨sp.few.2 q (List.mem_of_getElem? hq'),fun e=> ?_,fun z hz=>⟨(g2 z hz).1,fun e=> ?_⟩,g1⟩
   ·refine Classical.byContradiction fun hne=> ?_
    obtain ⟨o',h1,h2,_⟩:=g3 hne
    rw [ho] at h1
    exact h2 (by rw [<-Option.some.inj h1];exact e)
   ·obtain ⟨o',h1,_,h3⟩:=g3 (List.ne_nil_of_mem hz)
    rw [ho] at h1
    rw [<-Option.some.inj h1,<-e] at h3
    exact h3 hz
  ·have q1:=(g.que i hi1 k1 q h1).2.1 z hz'
   have q2:=(g.que i hi1 k2 q' h2).2.1 z hz
   rcases q1.2.2.2.2 with h | ⟨_,n1,a1,_,a3⟩
   ·exact h
   ·rcases q2.2.2.2.2 with h | ⟨_,n2,b1,_,b3⟩
    ·exact h
    ·rw [a1] at b1
     cases b1
     omega
 ·obtain ⟨p,hp'⟩:=List.mem_iff_getElem?.1 hx
  obtain ⟨hp1,rfl⟩:=gq p x hp'
  have sp:=sa.proc p hp1
  have pm:=g.proc p hp1
  refine ⟨sp.len,sp.cur,fun l hl=> ?_,pm.tim.1,pm.wak.1⟩
  obtain ⟨i,hi⟩:=List.mem_iff_getElem?.1 hl
  have sl:=sp.lan l hl
  exact ⟨(pm.lan i l hi).1,fun hne=>((g.lan p hp1 i l hi).2.1 hne).2.2,sl.taken,sl.dropped,sl.nd,sl.waiters⟩
end
section
variable {h:Hp}
theorem zqy1 {P:Program} {n:Int} {Q:Int->Int->Hp->Prop} (hn:0<=n/\n<=8) (hq:Q 0 n h):zkk P 1 n Q h:=by
 unfold zkk
 have:n=0\/n=1\/n=2\/n=3\/n=4\/n=5\/n=6\/n=7\/n=8:=by omega
 refine ⟨by decide,by decide,by decide,by decide,by decide,?_⟩
 rcases this with rfl | rfl | rfl | rfl | rfl | rfl | rfl | rfl | rfl<;>exact hq
theorem zerosL_one {v:Value}:∀ {n:Nat},zan [v] n=List.replicate n v
 | 0=>rfl
 | n+1=>by
  unfold zan
  rw [List.replicate_succ,List.flatten_cons,List.replicate_succ]
  show v::zan [v] n=_
  rw [zerosL_one]
theorem zxo :∀ {n:Nat} {v:Int},zaw (List.replicate n (Value.int .i64 v))=true
 | 0,_=>rfl
 | n+1,v=>by
  rw [List.replicate_succ]
  show (zaw [Value.int .i64 v]&&zaw (List.replicate n (Value.int .i64 v)))=true
  rw [zxo];rfl
theorem zac2 {a:Addr} {v n:Int} {Q:Sl->Hp->Prop} (hx:LdIs h a [.int .i64 v]) (hn:0<=n/\n<=8) (hq:∀l h',h<=h'->Is h' l (List.replicate n.toNat v)->Q l h'):zes prog ⟨some a,1,1⟩ n Q h:=by
 unfold zes
 refine JoinW0.direct ?_
 rw [if_neg (by simp;omega)]
 refine zyo ?_
 unfold ztj
 refine zvb ?_
 rw [show IntKind.wrap .u64 (((⟨some a,1,1⟩:Sl).len:Nat):Int)=1 from rfl,show IntKind.wrap .u64 n=n from wrapU ⟨by omega,by omega⟩]
 refine zqy1 hn (JoinW0.direct ?_)
 refine letW ?_
 rw [show (decide ((0:Int)>0) || decide (n>9223372036854775807))=false by simp;omega,if_neg (by decide)]
 obtain ⟨m,rfl⟩:∃m:Nat,n=(m:Int):=⟨n.toNat,by omega⟩
 rw [wrap64 (by omega) (by omega)]
 rw [Int.toNat_natCast] at hq
 refine ⟨⟨by omega,by omega,by omega,by omega⟩,fun b ty hb=> ?_⟩
 rw [Int.toNat_natCast,zerosL_one]
 have l1:=zcv (o:=.cells (List.replicate m (Value.int .i64 0)).toArray ty (0,0)) hb
 have kb:Blk (h.set b (.cells (List.replicate m (Value.int .i64 0)).toArray ty (0,0))) b (List.replicate m (Value.int .i64 0)):=⟨ty,zbx⟩
 have keep:∀ {k k':Hp},h<=k->Mv [b] k [b] k'->h<=k':=fun hl m c ob e=>m.keep c ob (hl c ob e) fun hc=>by rw [List.mem_singleton.1 hc,hb] at e;cases e
 refine zmj (sz:=1) kb (x:=⟨some a,1,1⟩) (n:=min 1 m) (new:=List.replicate (min 1 m) (Value.int .i64 v)) rfl ⟨by simp,?_⟩ zxo (by simp;omega) fun k1 m1 kb1=> ?_
 ·by_cases e:m=0
  ·exact .inl (by rw [e];rfl)
  ·refine .inr ⟨a,rfl,?_⟩
   rw [show min 1 m=1 by omega]
   exact zbp l1 hx
 ·refine LoopW1.intro (fun (i:Int) k'=>∃j:Nat,i=(j:Int)/\j<=m/\(1<=j\/m=0)/\h<=k'/\Blk k' b (List.replicate j (Value.int .i64 v)++List.replicate (m-j) (Value.int .i64 0))) (fun i _=>(m-i).toNat) ⟨min 1 m,rfl,by omega,by omega,keep l1 m1,by simpa using kb1⟩ ?_
  rintro i k2 ⟨j,rfl,j1,j2,l2,kb2⟩
  by_cases hj:j<m
  ·rw [if_pos (decide_eq_true (by show (j:Int)<(m:Int);omega))]
   refine ⟨⟨by omega,by show (j:Int)<=(m:Int);omega⟩,letW ⟨⟨by omega,by show (j:Int)<=(m:Int);omega⟩,letW ?_⟩⟩
   rw [Int.toNat_natCast]
   dsimp only
   rw [zgr (by omega),zdo2,Nat.zero_add,Nat.mul_one]
   refine zmj (sz:=1) kb2 (n:=min j (m-j)) (new:=List.replicate (min j (m-j)) (Value.int .i64 v)) rfl ?_ zxo (by simp;omega) fun k3 m3 kb3=> ?_
   ·refine kb2.rd (by simp) ?_
    rw [List.drop_zero,List.take_append_of_le_length (by simp;omega),List.take_replicate]
    congr 1;omega
   ·rw [wrap64 (by omega) (by omega)]
    refine ⟨⟨j+min j (m-j),by omega,by omega,by omega,keep l2 m3,cast (congrArg (Blk k3 b) ?_) kb3⟩,by omega⟩
    rw [List.take_append_of_le_length (by simp),List.take_of_length_le (by simp),List.drop_append,List.drop_eq_nil_of_le (by simp),List.nil_append,List.drop_replicate,List.length_replicate,List.replicate_append_replicate]
    congr 2;omega
  ·rw [if_neg (fun e=>hj (by have:(j:Int)<(m:Int):=of_decide_eq_true e;omega))]
   have:j=m:=by omega
   subst this
   refine hq _ k2 l2 ⟨by simp,by rw [List.flatMap_replicate];show (zan [Value.int .i64 v] j).length=_;rw [zerosL_one];simp,?_⟩
   by_cases e:j=0
   ·exact .inl (by simp [e])
   ·refine .inr ⟨⟨b,0,none⟩,rfl,?_⟩
    rw [Nat.sub_self] at kb2
    refine kb2.ldIs (off:=0) (n:=j) ?_
    rw [List.drop_zero,List.replicate_zero,List.append_nil,List.take_of_length_le (by simp),List.flatMap_replicate]
    exact zerosL_one.symm
end
section
variable {h0 h1 k:Hp} {A:Asn}
theorem zgf1 {h:Hp} {b c:Nat} {ob:Obj} (hne:c≠b):(h.set b ob) c=h c:=by simp [Hp.set,hne]
theorem zgg1 {cs:List Value} {K:Addr->Hp->Prop} (o:Has h1 A k) (hk:∀a h1' k',h1<=h1'->LdIs h1' a cs->Has h1' A k'->K a k'):NewW cs K k:=by
 intro b t hb
 obtain ⟨hl,F,a,hf⟩:=o
 have hb1:h1 b=none:=zct hl hb
 refine hk _ (h1.set b (.cells cs.toArray t (0,0))) _ (zcv hb1) zqf ⟨fun c ob e=> ?_,F,A.same a fun c hc=> ?_,fun c hc=> ?_⟩
 ·by_cases e2:c=b
  ·subst e2;rw [zbx] at e ⊢;exact e
  ·rw [zgf1 e2] at e ⊢;exact hl c ob e
 ·have:c≠b:=fun e=>A.known a c hc (by rw [e];exact hb)
  exact zgf1 this
 ·have:c≠b:=fun e=>A.known a c hc (by rw [e];exact hb)
  rw [zgf1 this];exact hf c hc
theorem zin1 {α:Type} {sz bytes:Nat} {enc:α->List Value} {zero:List Value} {z:α} {n:Int} {K:Sl->Hp->Prop} (o:Has h1 A k) (hz:zero=enc z) (henc:∀x,(enc x).length=sz) (hn:0<=n/\n<=1000) (hb:bytes<=1000)
  (hk:∀l h1' k',h1<=h1'->Rw h1' sz enc l (List.replicate n.toNat z)->Has h1' A k'->K l k'):MakeW bytes zero n n K k:=by
 have hm:n.toNat*bytes<=1000*1000:=Nat.mul_le_mul (by omega) hb
 refine ⟨⟨by omega,by omega,by omega,by omega⟩,fun b t hb=> ?_⟩
 refine zgg1 (cs:=zan zero n.toNat) (K:=fun a k'=>K ⟨some a,n.toNat,n.toNat⟩ k') o (fun a h1' k' l hld o'=>hk _ h1' k' l ⟨by rw [List.length_replicate],?_,.inr ⟨a,rfl,?_⟩⟩ o') b t hb
 ·rw [List.flatMap_replicate,List.length_flatten,List.map_replicate,henc,List.sum_replicate_nat,List.length_replicate]
 ·rw [List.flatMap_replicate,<-hz]
  exact hld
theorem zlf1 {α:Type} {sz bytes:Nat} {enc:α->List Value} {zero:List Value} {z:α} {n:Int} {K:Sl->Hp->Prop} (hz:zero=enc z) (henc:∀x,(enc x).length=sz) (hn:0<=n/\n<=1000) (hb:bytes<=1000)
  (hk:∀l k',k<=k'->Has k (OwnA sz enc l (List.replicate n.toNat z)) k'->K l k'):MakeW bytes zero n n K k:=by
 have hm:n.toNat*bytes<=1000*1000:=Nat.mul_le_mul (by omega) hb
 refine ⟨⟨by omega,by omega,by omega,by omega⟩,fun b t hb=> ?_⟩
 have e:(List.replicate n.toNat z).flatMap enc=zan zero n.toNat:=by rw [List.flatMap_replicate,hz];rfl
 have el:(zan zero n.toNat).length=n.toNat*sz:=by
  rw [<-e,List.flatMap_replicate,List.length_flatten,List.map_replicate,henc,List.sum_replicate_nat]
 refine hk _ _ (zcv hb) ⟨zcv hb,fun c=>c=b,⟨[b],⟨by rw [List.length_replicate],Nat.le_refl _,.inr ⟨b,zan zero n.toNat,rfl,rfl,⟨t,zbx⟩,el,?_⟩⟩,fun c=>by simp⟩,fun c hc=>by rw [hc];exact hb⟩
 rw [<-e,List.take_of_length_le (by rw [e,el];exact Nat.le_refl _)]
end
abbrev eX :S_api_Part->List Value:=fun x=>zac (sh_api_Part.enc x)
abbrev eY :S_api_Process->List Value:=fun x=>zac (sh_api_Process.enc x)
def zX :S_api_Part:=⟨0,⟨none,0,0⟩,0,0,⟨none,0,0⟩,⟨none,0,0⟩⟩
def zY :S_api_Process:=⟨0,0,0,0,0,0,0,0,0,0,0,0,false,0,⟨none,0,0⟩⟩
def zL :S_api_Lane:=⟨⟨none,0,0⟩,⟨none,0,0⟩,0,0⟩
def zoc1 (locks:Int):PPart:=⟨0,[],0,0,List.replicate locks.toNat (-1),List.replicate locks.toNat []⟩
def zod1 (n:Nat):PProcess:=⟨0,0,List.replicate 8 0,0,0,false,0,List.replicate n ⟨[],[],0,0⟩⟩
theorem zlg1 {α β:Type} {R:α->β->Prop} {a:α} {b:β} (h:R a b):∀ {n:Nat},All2 R (List.replicate n a) (List.replicate n b)
 | 0=>trivial
 | n+1=>⟨h,zlg1 h⟩
theorem zgh1 {α β:Type} {R:α->β->Prop} {a:α} {b:β} (h:R a b):∀ {l:List α} {m:List β},All2 R l m->All2 R (l++ [a]) (m++ [b])
 | [],[],_=>⟨h,trivial⟩
 | _::_,_::_,k=>⟨k.1,zgh1 h k.2⟩
section
variable {h0 hb k:Hp} {r r1:Sl} {i:Nat}
theorem Has.inB {sz:Nat} {sh:Shape} {l:Sl} {xs:List sh.T} (o:Has h0 (OwnA sz (fun x=>zac (sh.enc x)) l xs) k) (henc:∀x,(zac (sh.enc x)).length=sz) (hs:0<sz) (hi:i<xs.length):InB l.base l.len (i:Int):=
 (Rs.get (sh:=sh) (K:=fun _=>True) (o.ownRw henc) henc hs (by omega) (by omega) fun _ _=>trivial).1
theorem zoe1 {rows:List S_api_Part} {locks:Int} {K:Hp->Prop} {B:Asn} (o:Has hb ((OwnA 6 eX r rows).star B) k) (hi:rows[i]?=some zX) (hl:0<=locks/\locks<=8)
  (hk:∀x hb' k',hb<=hb'->PartAt hb' x (zoc1 locks)->Has hb' ((OwnA 6 eX r (rows.set i x)).star B) k'->K k'):
  (NewW [(.int .i64 (-1:Int))] (fun a h4=>
 ((True/\(True/\(True/\(True/\True))))/\(CallT prog zah [(.slice (some a) 1 1),(.int .i64 locks)] shSl (fun r2 h5=>
 ((True/\(True/\(True/\True)))/\((InB r.base r.len (i:Int))/\(MakeW 24 [(.slice none 0 0)] locks locks (fun r3 h6=>
 ((True/\(True/\True))/\StW h6 (Addr.add (sat r.base 6 (i:Int)) 4) [r2.v] (fun h7=>
 ((True/\True)/\((InB r.base r.len (i:Int))/\StW h7 (Addr.add (sat r.base 6 (i:Int)) 5) [r3.v] (fun h8=>
 K h8)))))) h5/\StW h5 (Addr.add (sat r.base 6 (i:Int)) 4) [r2.v] (fun h6=>
 ((True/\(True/\True))/\MakeW 24 [(.slice none 0 0)] locks locks (fun r3 h7=>
 ((True/\(True/\True))/\((InB r.base r.len (i:Int))/\StW h7 (Addr.add (sat r.base 6 (i:Int)) 5) [r3.v] (fun h8=>
 K h8)))) h6)))))) h4/\MakeW 24 [(.slice none 0 0)] locks locks (fun r2 h5=>
 ((True/\(True/\(True/\True)))/\CallT prog zah [(.slice (some a) 1 1),(.int .i64 locks)] shSl (fun r3 h6=>
 ((True/\(True/\(True/\True)))/\((InB r.base r.len (i:Int))/\StW h6 (Addr.add (sat r.base 6 (i:Int)) 4) [r3.v] (fun h7=>
 ((True/\(True/\True))/\((InB r.base r.len (i:Int))/\StW h7 (Addr.add (sat r.base 6 (i:Int)) 5) [r2.v] (fun h8=>
 K h8))))))) h5)) h4))) k/\MakeW 24 [(.slice none 0 0)] locks locks (fun r2 h4=>
 ((True/\(True/\(True/\True)))/\NewW [(.int .i64 (-1:Int))] (fun a h5=>
 ((True/\(True/\(True/\(True/\True))))/\CallT prog zah [(.slice (some a) 1 1),(.int .i64 locks)] shSl (fun r3 h6=>
 ((True/\(True/\(True/\True)))/\((InB r.base r.len (i:Int))/\StW h6 (Addr.add (sat r.base 6 (i:Int)) 4) [r3.v] (fun h7=>
 ((True/\(True/\True))/\((InB r.base r.len (i:Int))/\StW h7 (Addr.add (sat r.base 6 (i:Int)) 5) [r2.v] (fun h8=>
 K h8))))))) h5)) h4)) k):=by
 have hi':i<rows.length:=(List.getElem?_eq_some_iff.1 hi).1
 have fin:∀ {hb' k':Hp} {l2 l3:Sl},hb<=hb'->Is hb' l2 (List.replicate locks.toNat (-1))->Rw hb' 1 (fun x=>zac (shSl.enc x)) l3 (List.replicate locks.toNat (⟨none,0,0⟩:Sl))->Has hb' ((OwnA 6 eX r ((rows.set i {zX with Owners:=l2}).set i {zX with Owners:=l2,Queues:=l3})).star B) k'->K k':=fun {hb' k' l2 l3} hl h2 h3 o'=>by
  rw [List.set_set] at o'
  exact hk _ hb' k' hl ⟨rfl,⟨[],Rw.nil rfl,rfl⟩,rfl,rfl,h2,_,h3,zlg1 (Rw.nil rfl)⟩ o'
 have st4:∀ {hb' k':Hp} {l2:Sl} {K':Hp->Prop},Has hb' ((OwnA 6 eX r rows).star B) k'->(∀k'',Has hb' ((OwnA 6 eX r (rows.set i {zX with Owners:=l2})).star B) k''->K' k'')->StW k' ((sat r.base 6 (i:Int)).add 4) [l2.v] K':=fun {hb' k' l2 K'} o' hk'=>by
  obtain ⟨h2,_,oO,_,put⟩:=o'.fst
  exact oO.oput (i:=i) (x':={zX with Owners:=l2}) (off:=4) (new:=[l2.v]) (fun _=>rfl) hi (by show 4+1<=6;omega) rfl fun k'' o''=>hk' k'' (put _ _ o'')
 have st5:∀ {hb' k':Hp} {l2 l3:Sl} {K':Hp->Prop},Has hb' ((OwnA 6 eX r (rows.set i {zX with Owners:=l2})).star B) k'->(∀k'',Has hb' ((OwnA 6 eX r ((rows.set i {zX with Owners:=l2}).set i {zX with Owners:=l2,Queues:=l3})).star B) k''->K' k'')->StW k' ((sat r.base 6 (i:Int)).add 5) [l3.v] K':=fun {hb' k' l2 l3 K'} o' hk'=>by
  obtain ⟨h2,_,oO,_,put⟩:=o'.fst
  exact oO.oput (i:=i) (x:={zX with Owners:=l2}) (x':={zX with Owners:=l2,Queues:=l3}) (off:=5) (new:=[l3.v]) (fun _=>rfl) (List.getElem?_set_self hi') (by show 5+1<=6;omega) rfl fun k'' o''=>hk' k'' (put _ _ o'')
 have inB:∀ {hb' k':Hp} {rows':List S_api_Part},rows'.length=rows.length->Has hb' ((OwnA 6 eX r rows').star B) k'->InB r.base r.len (i:Int):=fun e o'=>(Has.left o').inB (sh:=sh_api_Part) (fun _=>rfl) (by decide) (by omega)
 have mk:∀ {hb' k':Hp} {A':Asn} {K':Sl->Hp->Prop},Has hb' A' k'->(∀l h1' k',hb'<=h1'->Rw h1' 1 (fun x=>zac (shSl.enc x)) l (List.replicate locks.toNat (⟨none,0,0⟩:Sl))->Has h1' A' k'->K' l k')->MakeW 24 [(.slice none 0 0)] locks locks K' k':=fun o' hk'=>zin1 (z:=(⟨none,0,0⟩:Sl)) (enc:=fun x=>zac (shSl.enc x)) o' rfl (fun _=>rfl) (by omega) (by omega) hk'
 have rep:∀ {hb' k':Hp} {A':Asn} {a:Addr} {K':Sl->Hp->Prop},Has hb' A' k'->LdIs hb' a [.int .i64 (-1)]->(∀l h1' k',hb'<=h1'->Is h1' l (List.replicate locks.toNat (-1))->Has h1' A' k'->K' l k')->CallT prog zah [(.slice (some a) 1 1),(.int .i64 locks)] shSl K' k':=fun {hb' k' A' a K'} o' ha hk'=>by
  refine zbd1 (sh:=shSl) (K0:=fun l h'=>hb'<=h'/\Is h' l (List.replicate locks.toNat (-1))) o' (znq (x:=⟨some a,1,1⟩) (zac2 ha hl fun l h' hl' hi'=>⟨hl',hi'⟩)) ?_
  rintro l h1' k'' ⟨e1,e2⟩ o''
  exact hk' l h1' k'' e1 e2 o''
 refine ⟨?_,?_⟩
 ·refine zgg1 o fun a hb1 k1 l1 ha o1=> ?_
  refine ⟨⟨trivial,trivial,trivial,trivial,trivial⟩,?_,?_⟩
  ·refine rep o1 ha fun l2 hb2 k2 l2' h2 o2=> ?_
   refine ⟨⟨trivial,trivial,trivial,trivial⟩,inB rfl o2,?_,?_⟩
   ·refine mk o2 fun l3 hb3 k3 l3' h3 o3=> ?_
    refine ⟨⟨trivial,trivial,trivial⟩,st4 o3 fun k4 o4=>⟨⟨trivial,trivial⟩,inB (by simp) o4,st5 o4 fun k5 o5=>fin (Hp.le_trans l1 (Hp.le_trans l2' l3')) (Rw.mono l3' h2) h3 o5⟩⟩
   ·refine st4 o2 fun k3 o3=>⟨⟨trivial,trivial,trivial⟩,?_⟩
    refine mk o3 fun l3 hb4 k4 l4' h3 o4=> ?_
    exact ⟨⟨trivial,trivial,trivial⟩,inB (by simp) o4,st5 o4 fun k5 o5=>fin (Hp.le_trans l1 (Hp.le_trans l2' l4')) (Rw.mono l4' h2) h3 o5⟩
  ·refine mk o1 fun l3 hb2 k2 l2' h3 o2=> ?_
   refine ⟨⟨trivial,trivial,trivial,trivial⟩,?_⟩
   refine rep o2 (zbp l2' ha) fun l2 hb3 k3 l3' h2 o3=> ?_
   exact ⟨⟨trivial,trivial,trivial,trivial⟩,inB rfl o3,st4 o3 fun k4 o4=>⟨⟨trivial,trivial,trivial⟩,inB (by simp) o4,st5 o4 fun k5 o5=>fin (Hp.le_trans l1 (Hp.le_trans l2' l3')) h2 (Rw.mono l3' h3) o5⟩⟩
 ·refine mk o fun l3 hb1 k1 l1 h3 o1=> ?_
  refine ⟨⟨trivial,trivial,trivial,trivial⟩,?_⟩
  refine zgg1 o1 fun a hb2 k2 l2' ha o2=> ?_
  refine ⟨⟨trivial,trivial,trivial,trivial,trivial⟩,?_⟩
  refine rep o2 ha fun l2 hb3 k3 l3' h2 o3=> ?_
  exact ⟨⟨trivial,trivial,trivial,trivial⟩,inB rfl o3,st4 o3 fun k4 o4=>⟨⟨trivial,trivial,trivial⟩,inB (by simp) o4,st5 o4 fun k5 o5=>fin (Hp.le_trans l1 (Hp.le_trans l2' l3')) h2 (Rw.mono l3' (Rw.mono l2' h3)) o5⟩⟩
theorem zof1 {rows:List S_api_Process} {n:Int} {K:Hp->Prop} {B:Asn} (o:Has hb (B.star (OwnA 15 eY r1 rows)) k) (hi:rows[i]?=some zY) (hn:1<=n/\n<=100)
  (hk:∀x hb' k',hb<=hb'->ProcessAt hb' x (zod1 n.toNat)->Has hb' (B.star (OwnA 15 eY r1 (rows.set i x))) k'->K k'):
  MakeW 64 [(.slice none 0 0),(.slice none 0 0),(.int .i64 (0:Int)),(.int .i64 (0:Int))] n n (fun r2 h5=>
 ((True/\True)/\((InB r1.base r1.len (i:Int))/\StW h5 (Addr.add (sat r1.base 15 (i:Int)) 14) [r2.v] (fun h6=>
 K h6)))) k:=by
 have hi':i<rows.length:=(List.getElem?_eq_some_iff.1 hi).1
 refine zin1 (sz:=4) (z:=zL) (enc:=fun x=>zac (sh_api_Lane.enc x)) o rfl (fun _=>rfl) (by omega) (by omega) fun l hb1 k1 l1 h1 o1=> ?_
 refine ⟨⟨trivial,trivial⟩,(Has.right o1).inB (sh:=sh_api_Process) (fun _=>rfl) (by decide) hi',?_⟩
 obtain ⟨h2,_,oO,_,put⟩:=o1.snd
 refine oO.oput (i:=i) (x':={zY with Lanes:=l}) (off:=14) (new:=[l.v]) (fun _=>rfl) hi (by show 14+1<=15;omega) rfl fun k2 o2=>hk _ hb1 k2 l1 ⟨rfl,rfl,rfl,rfl,rfl,rfl,rfl,_,h1,zlg1 ⟨Rw.nil rfl,⟨[],Rw.nil rfl,rfl⟩,rfl,rfl⟩⟩ (put _ _ o2)
theorem zzb {x:S_api_Config} {c:PCfg} {Q:S_api_State->Hp->Prop} (a:CfgAt h0 x c) (mc:CfgM c) (o:Has h0 ((OwnA 6 eX r (List.replicate (nP c) zX)).star (OwnA 15 eY r1 (List.replicate (nQ c) zY))) k)
  (hq:∀y k',h0<=k'->StateAt k' y ((zrt c).list c)->Q y k'):LoopW1 (α1:=Int) (fun again t18 h3=>
 (if (decide (t18<((r.len:Nat):Int)))=true then
 JoinW0 (fun k=>
 (NewW [(.int .i64 (-1:Int))] (fun a h4=>
 ((True/\(True/\(True/\(True/\True))))/\(CallT prog zah [(.slice (some a) 1 1),(.int .i64 x.Locks)] shSl (fun r2 h5=>
 ((True/\(True/\(True/\True)))/\((InB r.base r.len t18)/\(MakeW 24 [(.slice none 0 0)] x.Locks x.Locks (fun r3 h6=>
 ((True/\(True/\True))/\StW h6 (Addr.add (sat r.base 6 t18) 4) [r2.v] (fun h7=>
 ((True/\True)/\((InB r.base r.len t18)/\StW h7 (Addr.add (sat r.base 6 t18) 5) [r3.v] (fun h8=>
 k h8)))))) h5/\StW h5 (Addr.add (sat r.base 6 t18) 4) [r2.v] (fun h6=>
 ((True/\(True/\True))/\MakeW 24 [(.slice none 0 0)] x.Locks x.Locks (fun r3 h7=>
 ((True/\(True/\True))/\((InB r.base r.len t18)/\StW h7 (Addr.add (sat r.base 6 t18) 5) [r3.v] (fun h8=>
 k h8)))) h6)))))) h4/\MakeW 24 [(.slice none 0 0)] x.Locks x.Locks (fun r2 h5=>
 ((True/\(True/\(True/\True)))/\CallT prog zah [(.slice (some a) 1 1),(.int .i64 x.Locks)] shSl (fun r3 h6=>
 ((True/\(True/\(True/\True)))/\((InB r.base r.len t18)/\StW h6 (Addr.add (sat r.base 6 t18) 4) [r3.v] (fun h7=>
 ((True/\(True/\True))/\((InB r.base r.len t18)/\StW h7 (Addr.add (sat r.base 6 t18) 5) [r2.v] (fun h8=>
 k h8))))))) h5)) h4))) h3/\MakeW 24 [(.slice none 0 0)] x.Locks x.Locks (fun r2 h4=>
 ((True/\(True/\(True/\True)))/\NewW [(.int .i64 (-1:Int))] (fun a h5=>
 ((True/\(True/\(True/\(True/\True))))/\CallT prog zah [(.slice (some a) 1 1),(.int .i64 x.Locks)] shSl (fun r3 h6=>
 ((True/\(True/\(True/\True)))/\((InB r.base r.len t18)/\StW h6 (Addr.add (sat r.base 6 t18) 4) [r3.v] (fun h7=>
 ((True/\(True/\True))/\((InB r.base r.len t18)/\StW h7 (Addr.add (sat r.base 6 t18) 5) [r2.v] (fun h8=>
 k h8))))))) h5)) h4)) h3))
 (fun h4=>
 again (IntKind.wrap .i64 (t18+(1:Int))) h4)
 else
 LoopW1 (α1:=Int) (fun again1 t42 h4=>
 (if (decide (t42<((r1.len:Nat):Int)))=true then
 MakeW 64 [(.slice none 0 0),(.slice none 0 0),(.int .i64 (0:Int)),(.int .i64 (0:Int))] (IntKind.wrap .i64 (((x.Labels.len:Nat):Int)+(1:Int))) (IntKind.wrap .i64 (((x.Labels.len:Nat):Int)+(1:Int))) (fun r2 h5=>
 ((True/\True)/\((InB r1.base r1.len t42)/\StW h5 (Addr.add (sat r1.base 15 t42) 14) [r2.v] (fun h6=>
 again1 (IntKind.wrap .i64 (t42+(1:Int))) h6)))) h4
 else
 Q ⟨(0:Int),r,r1⟩ h4)) (0:Int) h3)) (0:Int) k:=by
 have hparts:=mc.parts
 have hprocs:=mc.procs
 have hlab:nP c=c.labels.length:=rfl
 have hll:x.Labels.len=c.labels.length:=a.labels.1
 have er:r.len=nP c:=by have:=(Has.left o).ownSl.slen;rw [List.length_replicate] at this;exact this
 have er1:r1.len=nQ c:=by have:=(Has.right o).ownSl.slen;rw [List.length_replicate] at this;exact this
 refine LoopW1.intro (fun (t:Int) k'=>0<=t/\t<=(nP c:Int)/\∃hb done,h0<=hb/\All2 (PartAt hb) done (List.replicate t.toNat (zoc1 c.locks))/\Has hb ((OwnA 6 eX r (done++List.replicate (nP c-t.toNat) zX)).star (OwnA 15 eY r1 (List.replicate (nQ c) zY))) k') (fun t _=>(nP c-t).toNat) ⟨by omega,by omega,h0,[],Hp.le_refl _,trivial,by simpa using o⟩ ?_
 rintro t k1 ⟨t0,t1,hb,done,lb,hd,o1⟩
 have hdl:=hd.len
 rw [List.length_replicate] at hdl
 by_cases h:t<(nP c:Int)
 ·rw [if_pos (decide_eq_true (by omega))]
  have etn:((t.toNat:Nat):Int)=t:=by omega
  refine JoinW0.direct ?_
  have hrow:(done++List.replicate (nP c-t.toNat) zX)[t.toNat]?=some zX:=by
   rw [List.getElem?_append_right (by omega),hdl,Nat.sub_self,List.getElem?_replicate,if_pos (by omega)]
  rw [a.locks]
  have key:=zoe1 (i:=t.toNat) (r:=r) (K:=fun k'=>(0<=IntKind.wrap .i64 (t+1)/\IntKind.wrap .i64 (t+1)<=(nP c:Int)/\∃hb done,h0<=hb/\All2 (PartAt hb) done (List.replicate (IntKind.wrap .i64 (t+1)).toNat (zoc1 c.locks))/\Has hb ((OwnA 6 eX r (done++List.replicate (nP c-(IntKind.wrap .i64 (t+1)).toNat) zX)).star (OwnA 15 eY r1 (List.replicate (nQ c) zY))) k')/\(nP c-IntKind.wrap .i64 (t+1)).toNat<(nP c-t).toNat) o1 hrow mc.locks fun y hb' k' l' hy o'=>by
   rw [wrap64 (by omega) (by omega),show (t+1).toNat=t.toNat+1 by omega]
   refine ⟨⟨by omega,by omega,hb',done++ [y],Hp.le_trans lb l',?_,?_⟩,by omega⟩
   ·rw [List.replicate_succ']
    exact zgh1 hy (hd.imp fun _ _ e=>e.mono l')
   ·rw [List.set_append_right _ _ (by omega),hdl,Nat.sub_self,show nP c-t.toNat=(nP c-(t.toNat+1))+1 by omega,List.replicate_succ,List.set_cons_zero] at o'
    rw [List.append_assoc]
    exact o'
  rw [etn] at key
  exact key
 ·rw [if_neg (fun e=>h (by have:=of_decide_eq_true e;omega))]
  have etn:t.toNat=nP c:=by omega
  rw [etn,Nat.sub_self,List.replicate_zero,List.append_nil] at o1
  rw [etn] at hd
  refine LoopW1.intro (fun (j:Int) k'=>0<=j/\j<=(nQ c:Int)/\∃hb2 done2,hb<=hb2/\All2 (ProcessAt hb2) done2 (List.replicate j.toNat (zod1 (nP c+1)))/\Has hb2 ((OwnA 6 eX r done).star (OwnA 15 eY r1 (done2++List.replicate (nQ c-j.toNat) zY))) k') (fun j _=>(nQ c-j).toNat) ⟨by omega,by omega,hb,[],Hp.le_refl _,trivial,by simpa using o1⟩ ?_
  rintro j k2 ⟨j0,j1,hb2,done2,lb2,hd2,o2⟩
  have hdl2:=hd2.len
  rw [List.length_replicate] at hdl2
  by_cases hj:j<(nQ c:Int)
  ·rw [if_pos (decide_eq_true (by omega))]
   have etj:((j.toNat:Nat):Int)=j:=by omega
   have hrow:(done2++List.replicate (nQ c-j.toNat) zY)[j.toNat]?=some zY:=by
    rw [List.getElem?_append_right (by omega),hdl2,Nat.sub_self,List.getElem?_replicate,if_pos (by omega)]
   rw [wrap64 (n:=(x.Labels.len:Int)+1) (by omega) (by omega)]
   have en:((x.Labels.len:Int)+1).toNat=nP c+1:=by omega
   have key:=zof1 (i:=j.toNat) (r1:=r1) (n:=(x.Labels.len:Int)+1) (K:=fun k'=>(0<=IntKind.wrap .i64 (j+1)/\IntKind.wrap .i64 (j+1)<=(nQ c:Int)/\∃hb2 done2,hb<=hb2/\All2 (ProcessAt hb2) done2 (List.replicate (IntKind.wrap .i64 (j+1)).toNat (zod1 (nP c+1)))/\Has hb2 ((OwnA 6 eX r done).star (OwnA 15 eY r1 (done2++List.replicate (nQ c-(IntKind.wrap .i64 (j+1)).toNat) zY))) k')/\(nQ c-IntKind.wrap .i64 (j+1)).toNat<(nQ c-j).toNat) o2 hrow (by omega) fun y hb' k' l' hy o'=>by
    rw [wrap64 (by omega) (by omega),show (j+1).toNat=j.toNat+1 by omega]
    refine ⟨⟨by omega,by omega,hb',done2++ [y],Hp.le_trans lb2 l',?_,?_⟩,by omega⟩
    ·rw [List.replicate_succ']
     rw [en] at hy
     exact zgh1 hy (hd2.imp fun _ _ e=>e.mono l')
    ·rw [List.set_append_right _ _ (by omega),hdl2,Nat.sub_self,show nQ c-j.toNat=(nQ c-(j.toNat+1))+1 by omega,List.replicate_succ,List.set_cons_zero] at o'
     rw [List.append_assoc]
     exact o'
   rw [etj] at key
   exact key
  ·rw [if_neg (fun e=>hj (by have:=of_decide_eq_true e;omega))]
   have etj:j.toNat=nQ c:=by omega
   rw [etj,Nat.sub_self,List.replicate_zero,List.append_nil] at o2
   rw [etj] at hd2
   have lk:=o2.le
   refine hq _ k2 (Hp.le_trans lb (Hp.le_trans lb2 lk)) ⟨rfl,⟨done,(Has.left o2).ownRw fun _=>rfl,?_⟩,done2,(Has.right o2).ownRw fun _=>rfl,?_⟩
   ·have e:((zrt c).list c).parts=List.replicate (nP c) (zoc1 c.locks):=by
     show (List.range (nP c)).map (fun _=>zoc1 c.locks)=_
     rw [List.map_const',List.length_range]
    rw [e]
    exact hd.imp fun _ _ e=>e.mono (Hp.le_trans lb2 lk)
   ·have e:((zrt c).list c).procs=List.replicate (nQ c) (zod1 (nP c+1)):=by
     show (List.range (nQ c)).map (fun _=>zod1 (nP c+1))=_
     rw [List.map_const',List.length_range]
    rw [e]
    exact hd2.imp fun _ _ e=>e.mono lk
theorem zdc2 {x:S_api_Config} {c:PCfg} {Q:S_api_State->Hp->Prop} (a:CfgAt k x c) (mc:CfgM c) (hq:∀y k',k<=k'->StateAt k' y ((zrt c).list c)->Q y k'):zmp prog x Q k:=by
 unfold zmp
 have hparts:=mc.parts
 have hprocs:=mc.procs
 have hlab:nP c=c.labels.length:=rfl
 have hpro:nQ c=c.procs.length:=rfl
 have hll:x.Labels.len=c.labels.length:=a.labels.1
 obtain ⟨ps,hps,hall⟩:=a.procs
 have hpl:=hall.len
 have hpp:x.Procs.len=ps.length:=hps.1
 refine ⟨?_,?_⟩
 ·refine zlf1 (sz:=6) (z:=zX) (enc:=eX) rfl (fun _=>rfl) (by omega) (by omega) fun l k1 l1 o1=>⟨⟨trivial,trivial⟩,?_⟩
  refine zlf1 (sz:=15) (z:=zY) (enc:=eY) rfl (fun _=>rfl) (by omega) (by omega) fun l2 k2 l2' o2=> ?_
  rw [show ((x.Labels.len:Int)).toNat=nP c by omega] at o1
  rw [show ((x.Procs.len:Int)).toNat=nQ c by omega] at o2
  exact zzb a mc (o1.beside o2) hq
 ·refine zlf1 (sz:=15) (z:=zY) (enc:=eY) rfl (fun _=>rfl) (by omega) (by omega) fun l2 k1 l1 o1=>⟨⟨trivial,trivial⟩,?_⟩
  refine zlf1 (sz:=6) (z:=zX) (enc:=eX) rfl (fun _=>rfl) (by omega) (by omega) fun l k2 l2' o2=>⟨⟨trivial,trivial⟩,?_⟩
  rw [show ((x.Labels.len:Int)).toNat=nP c by omega] at o2
  rw [show ((x.Procs.len:Int)).toNat=nQ c by omega] at o1
  exact zzb a mc (o1.beside o2).comm hq
end
end Lf
namespace Go.Proofs
open Go.RowKit Go.Shelf
attribute [local go_sem] Oper.semAt_some
def tkNum (cur len:Int) (j:Nat):Int:=(wrap64 (cur+(j:Int))).tmod len
abbrev TkN (len:Nat):={x:Int // 0<=x/\x<(len:Int)}
def zud {α:Type} (num:Nat->α) (k:Nat):List α:=(List.range k).map num
theorem tkUpto_succ {α:Type} {num:Nat->α} {k:Nat}:zud num (k+1)=zud num k++ [num k]:=by simp [zud,List.range_succ]
theorem zlh1 {α:Type} {num:Nat->α} {k:Nat}:(zud num k).length=k:=by simp [zud]
set_option maxHeartbeats 2000000 in
theorem zad2 (n:Nat) (hn:1<=n) (l A A1:Nat) (cur:Int) (len:Nat) (hlen:0<len) (hl2:len<=1000) (num:Nat->TkN len) (hnum:∀j,j<len->tkNum cur len j=(num j).1) (Kp:World->World->Prop) (hkp:∀W W',Kp W W'->W'.cell? ⟨A,0,none⟩=W.cell? ⟨A,0,none⟩/\W'.cell? ⟨A1,0,none⟩=W.cell? ⟨A1,0,none⟩) (J Jx:List (TkN len)->World->Prop)
  (hY:∀pre x W,J pre W->pre.length<len->YieldAt Fence.wide (n-1) Tryz.prog l #[.int .i64 x.1] W fun e W'=>
   (e=.returned (.bool true)/\J (pre++ [x]) W'/\Kp W W')\/(e=.returned (.bool false)/\Jx (pre++ [x]) W'))
  (W:World) (hA:W.cell? ⟨A,0,none⟩=some (.int .i64 cur)) (hA1:W.cell? ⟨A1,0,none⟩=some (.int .i64 (len:Int))) (h0:J [] W):
  CallsIn Fence.wide n Tryz.prog 218 #[.func (.yield l) #[] #[],.pointer (some ⟨A1,0,none⟩),.pointer (some ⟨A,0,none⟩)] W fun e W'=>(∃v,e=.returned v)/\
   ((∃ys,ys=zud num len/\J ys W')\/(∃pre,(∃k,k<=len/\pre=zud num k)/\Jx pre W')):=by
 refine callsIn_of_wp Tryz.func218 rfl trivial ?_ rfl
 simp only [Tryz.ntmps218,List.size_toArray,List.length_cons,List.length_nil,Nat.reduceAdd,Nat.reduceSub,Array.replicate_succ,Array.replicate_zero,List.push_toArray,List.append_toArray,List.nil_append,List.cons_append]
 gi_wp2
 gi_loopw [6] (fun i wr=>∃k:Nat,k<=len/\i=.int .i64 (k:Int)/\J (zud num k) wr/\wr.cell? ⟨A,0,none⟩=some (.int .i64 cur)/\wr.cell? ⟨A1,0,none⟩=some (.int .i64 (len:Int)))
  (fun i _=>len-(intOf i).toNat)
 case atStart=>exact ⟨0,Nat.zero_le _,rfl,h0,hA,hA1⟩
 case round=>
  obtain ⟨k,hk,rfl,hJs,hcA,hcA1⟩:=hrel
  by_cases hlt:k<len
  ·obtain ⟨fn,tmps,assign,body,hy,hR⟩:=hY _ (num k) wr hJs (by rw [zlh1];exact hlt)
   rw [<-hnum k hlt] at hy
   unfold tkNum at hy
   gi_wp2
   refine hR.mono ?_
   rintro e W3 (⟨rfl,hJ3,hk3⟩ | ⟨rfl,hJx3⟩)
   ·gi_wp2
    go_roundw
    case rel=>exact ⟨k+1,by omega,by simp,by rw [tkUpto_succ];exact hJ3,(hkp _ _ hk3).1.trans hcA,(hkp _ _ hk3).2.trans hcA1⟩
    case measure=>simp [intOf];omega
   ·gi_wp2
    refine bodyPost_ret (results_none rfl _ _ _) rfl ?_
    exact ⟨⟨_,rfl⟩,.inr ⟨_,⟨k+1,by omega,tkUpto_succ.symm⟩,hJx3⟩⟩
  ·obtain rfl:k=len:=by omega
   gi_wp2
   go_end0
   exact ⟨⟨_,rfl⟩,.inl ⟨_,rfl,hJs⟩⟩
end Go.Proofs
namespace Lf
open Go Go.Proofs Tryz
noncomputable def takeTail :Code:=match zlm1 f160 with
 | .seq _ (.scope (.seq _ (.seq _ (.seq _ t))))=>t
 | _=>.skip
def takeP :List Nat:=[1,3,4]
def takeA :Ann:=.sq .tt (.sq (.rg [(0,[]),(1,[]),(2,[]),(3,[]),(4,[]),(5,[]),(6,[]),(7,[]),(8,[]),(9,[]),(10,[]),(11,[])]) (.sq (.rg [(0,[]),(1,[]),(2,[]),(3,[]),(4,[]),(5,[]),(6,[]),(7,[]),(8,[]),(9,[]),(10,[]),(11,[]),(12,[]),(13,[]),(14,[]),(15,[]),(16,[])]) (.sq (.rg [(0,[]),(1,[]),(2,[]),(3,[]),(4,[]),(5,[]),(6,[2]),(7,[]),(8,[]),(9,[])]) .tt)))
noncomputable def takeC :Ctx:=⟨prog,tb,takeP⟩
def takeSt (p:Option Addr) (lane:Int):St where
 f:=fun t=>match t with
  | 1=>some (.box 1 0,[])
  | 2=>some (.v (.int .i64 0),[])
  | 3=>some (.box 3 0,[])
  | 4=>some (.box 4 0,[])
  | 5=>some (.v (.bool false),[])
  | 6=>some (.v (.int .i64 0),[])
  | _=>none
 m:=fun k=>match k with
  | 1=>some [.pointer p]
  | 3=>some [.int .i64 lane]
  | 4=>some [.int .i64 0,.int .i64 0]
  | _=>none
noncomputable def takeE (K:(shRes tb f160.resultTypes.toList).T->Hp->Prop):Env:=fun e s h=>match e with
 | .nrm | .ret=>retW takeC s h f160.results.toList f160.resultTypes.toList K
 | _=>False
noncomputable def takeX (p:Option Addr) (lane:Int) (K:(shRes tb f160.resultTypes.toList).T->Hp->Prop) (h:Hp):Prop:=
 liftM takeC takeTail .full takeA takeP (takeSt p lane) (takeE K) h
end Lf
namespace Go.Proofs
open Go.RowKit Go.Shelf
attribute [local go_sem] Oper.semAt_some
theorem zut {w:World} {o:Obj} {b:Nat}:(w.alloc o).heap[b]?=if b=w.heap.size then some o else w.heap[b]?:=by
 show (w.heap.push o)[b]?=_
 rw [Array.getElem?_push]
theorem zqz1 {W:World} {b i:Nat} {cs:Array Value} {t:TypeId} (h:W.heap[b]?=some (.cells cs t (0,0))):W.cell? ⟨b,i,none⟩=cs[i]?:=by
 simp [World.cell?,h]
theorem zzc {W W':World} {b i:Nat} (h:W'.heap[b]?=W.heap[b]?):W'.cell? ⟨b,i,none⟩=W.cell? ⟨b,i,none⟩:=by simp [World.cell?,h]
structure TkG (B c:Nat) (W2:World) (v:Int) (W:World):Prop where
 same:∀b,b<B->b≠c->W.heap[b]?=W2.heap[b]?
 box:W.heap[c]?=some (.cells #[.int .i64 v] 3)
 size:B<=W.heap.size
 os:W.os=W2.os
 tape:W.tape=W2.tape
 output:W.output=W2.output
theorem TkG.grown {B c:Nat} {W2 W W':World} {v:Int} {row:Option Nat} (g:TkG B c W2 v W) (hc:c<B) (hg:W.grownBy W' row) (hr:∀r,row=some r->B<=r/\∃o:Obj,W.heap[r]?=some o/\o.isCells=false):TkG B c W2 v W':=by
 have key:∀b,b<B->W'.heap[b]?=W.heap[b]?:=fun b hb=>hg.block b (Nat.lt_of_lt_of_le hb g.size) fun e=>by have:=(hr b e.symm).1;omega
 exact ⟨fun b hb hne=>(key b hb).trans (g.same b hb hne),(key c hc).trans g.box,Nat.le_trans g.size hg.size,hg.os.trans g.os,hg.tape.trans g.tape,hg.output.trans g.output⟩
theorem zgr2 {n:Nat} {β:Nat->Nat} {s:Lf.St} {a:Act} {h:Lf.Hp} {w:World} {D:Nat} (r:Lf.Rel n β s a h w) (hd:h D=none) (ho:w.heap[D]?=some (.deferred (some []))) (o:Obj):Lf.Rel n β s a h (w.putObj D o) where
 sz:=r.sz
 sub:=fun b ob e=>by
  have hne:b≠D:=fun e2=>by rw [e2,hd] at e;cases e
  rw [World.putObj_heap_other hne];exact r.sub b ob e
 lt:=r.lt
 chain:=r.chain
 cur:=r.cur
 und:=r.und
 box:=fun k cs e hl=>by
  obtain ⟨h1,ct,h2⟩:=r.box k cs e hl
  have hne:β k≠D:=fun e2=>by rw [e2,ho] at h2;cases h2
  exact ⟨h1,ct,by rw [World.putObj_heap_other hne];exact h2⟩
 inj:=r.inj
 nrefm:=r.nrefm
 nref:=r.nref
abbrev zae2 (p:Addr) (w:World) (x7 x8 x9 x10:Value):Array Value:= #[Value.pointer (some p),Value.pointer (some {block:=w.heap.size,off:=0}),Value.int IntKind.i64 0,Value.pointer (some {block:=w.heap.size+1,off:=0}),Value.pointer (some {block:=w.heap.size+1+1,off:=0}),Value.bool false,Value.int IntKind.i64 0,x7,x8,x9,x10,undef,undef,undef,undef,undef,undef,undef,undef,undef,undef,undef,undef,undef,undef,undef,undef,undef,undef,undef,undef,undef,undef,undef,undef,undef,undef,undef,undef,undef,undef,undef,undef,undef,undef,undef,undef,undef,undef,undef,undef,undef,undef]
theorem zfq2 {k:Lf.Hp} {p:Addr} {w W:World} {D:Nat} {v:Int} {x7 x8 x9 x10:Value} {K:(Lf.shRes Lf.tb Tryz.f160.resultTypes.toList).T->Lf.Hp->Prop} (hs:Lf.Sub k w)
  (bb:Below w.heap.size w W) (b0:W.heap[w.heap.size]?=some (.cells #[.pointer (some p)] 106)) (b1:W.heap[w.heap.size+1]?=some (.cells #[.int .i64 v] 3)) (b2:W.heap[w.heap.size+2]?=some (.cells #[.int .i64 0,.int .i64 0] 149))
  (hD:w.heap.size+3<=D) (hK:W.heap[D]?=some (.deferred (some []))) (ht:Lf.takeX (some p) v K k):
  Lf.takeTail.wp Tryz.prog (Exit.noGoto (bodyPostM Fence.wide 3 Tryz.prog Tryz.f160 fun e w'=>∃u h',e=.returned u/\(∃x,u=(Lf.shRes Lf.tb Tryz.f160.resultTypes.toList).enc x/\K x h')/\Lf.Step k h' w w'))
   {tmps:=zae2 p w x7 x8 x9 x10,defers:=[{target:=.collected D,args:= #[]}]} W:=by
 have ksub:Lf.Sub k W:=fun b o e=>(bb.block b (hs.lt e)).trans (hs b o e)
 have knone:∀b,w.heap.size<=b->k b=none:=fun b hb=>by
  cases e:k b with
  | none=>rfl
  | some o=>have:=hs.lt e;omega
 have hrel:Lf.Rel 53 (fun k=>if k=1 then w.heap.size else if k=3 then w.heap.size+1 else w.heap.size+2) (Lf.takeSt (some p) v) {tmps:=zae2 p w x7 x8 x9 x10,defers:=[{target:=.collected D,args:= #[]}]} k W:=by
  have slot:∀(t:Nat) (l:Lf.LV) (c:Lf.Chain),(Lf.takeSt (some p) v).f t=some (l,c)->c=[]/\(t=1/\l=.box 1 0\/t=2/\l=.v (.int .i64 0)\/t=3/\l=.box 3 0\/t=4/\l=.box 4 0\/t=5/\l=.v (.bool false)\/t=6/\l=.v (.int .i64 0)):=fun t l c e=>by
   unfold Lf.takeSt at e
   dsimp only at e
   split at e<;>cases e<;>simp
  have cell:∀(k:Nat) (cs:List Value),(Lf.takeSt (some p) v).m k=some cs->k=1/\cs=[.pointer (some p)]\/k=3/\cs=[.int .i64 v]\/k=4/\cs=[.int .i64 0,.int .i64 0]:=fun k cs e=>by
   unfold Lf.takeSt at e
   dsimp only at e
   split at e<;>cases e<;>simp
  refine ⟨rfl,ksub,fun t l c e=> ?_,fun t l c e q hq=> ?_,fun t l c e _ _=> ?_,fun t l c e _ hh=> ?_,fun k' cs e _=> ?_,fun k1 k2 e1 e2 _ _ he=> ?_,fun _ e=>e.elim,fun _ e=>e.elim⟩
  ·have:=(slot t l c e).2;omega
  ·rw [(slot t l c e).1] at hq;cases hq
  ·obtain ⟨_,h | h | h | h | h | h⟩:=slot t l c e<;>obtain ⟨rfl,rfl⟩:=h<;>exact ⟨rfl,fun _ _ _=>trivial⟩
  ·rw [(slot t l c e).1] at hh
   exact absurd (Lf.holds_nil _) hh
  ·rcases cell k' cs e with ⟨rfl,rfl⟩ | ⟨rfl,rfl⟩ | ⟨rfl,rfl⟩
   ·exact ⟨knone _ (Nat.le_refl _),106,b0⟩
   ·exact ⟨knone _ (by simp),3,b1⟩
   ·exact ⟨knone _ (by simp),149,b2⟩
  ·have c1:k1=1\/k1=3\/k1=4:=by
    cases e:(Lf.takeSt (some p) v).m k1 with
    | none=>exact absurd e e1
    | some cs=>rcases cell k1 cs e with h | h | h<;>simp [h.1]
   have c2:k2=1\/k2=3\/k2=4:=by
    cases e:(Lf.takeSt (some p) v).m k2 with
    | none=>exact absurd e e2
    | some cs=>rcases cell k2 cs e with h | h | h<;>simp [h.1]
   rcases c1 with rfl | rfl | rfl<;>rcases c2 with rfl | rfl | rfl<;>simp at he<;>first | rfl | omega
 have hpriv:∀k'∈Lf.takeP,∀b,b<w.heap.size\/w.heap.size+3<=b->(if k'=1 then w.heap.size else if k'=3 then w.heap.size+1 else w.heap.size+2)≠b:=fun k' _ b hb e=>by
  split at e
  ·omega
  ·split at e<;>omega
 refine Lf.lift_sound Lf.tb_ok Lf.takeTail Lf.takeA Lf.takeP _ _ k (Lf.allLt_mem (n:=53) (by kernel_rfl)) ht _ _ W hrel _ fun e s' h' β' a' w' he hr' sg=> ?_
 have dlt:D<W.heap.size:=Lf.heap_lt hK
 have dn:k D=none:=knone D (by omega)
 have kD:w'.heap[D]?=some (.deferred (some [])):=(sg.keep D dlt dn fun k' hk _=>hpriv k' hk D (.inr hD)).trans hK
 have hD':h' D=none:=sg.unk D dlt dn fun k' hk _=>hpriv k' hk D (.inr hD)
 have fin:Lf.retW Lf.takeC s' h' Tryz.f160.results.toList Tryz.f160.resultTypes.toList K->LeavesInM Fence.wide 3 Tryz.prog Tryz.f160 a'.tmps (fun e w'=>∃u h',e=.returned u/\(∃x,u=(Lf.shRes Lf.tb Tryz.f160.resultTypes.toList).enc x/\K x h')/\Lf.Step k h' w w') a'.defers .returning w':=fun hret=>by
  rw [sg.defers]
  refine ⟨by simp,.inl ⟨_,_,rfl,run_takeDeferred kD,?_⟩⟩
  have hr2:=zgr2 hr' hD' kD (.deferred none)
  obtain ⟨x,vs,hk,hrun,hval⟩:=Lf.retW_run Lf.tb_ok hr2 hret
  refine ⟨_,Lf.results_run hrun,_,h',rfl,⟨x,hval,hk⟩,hr2.sub,?_,fun b hb hn=> ?_,?_,?_,?_⟩
  ·have:=sg.size
   have:=bb.size
   simp
   omega
  ·have hlt:b<W.heap.size:=Nat.lt_of_lt_of_le hb bb.size
   refine ⟨?_,sg.unk b hlt hn fun k' hk _=>hpriv k' hk b (.inl hb)⟩
   rw [World.putObj_heap_other (by omega),sg.keep b hlt hn fun k' hk _=>hpriv k' hk b (.inl hb)]
   exact bb.block b hb
  ·exact sg.os.trans bb.os
  ·exact sg.tape.trans bb.tape
  ·exact sg.output.trans bb.output
 cases e with
 | nrm=>exact fin he
 | ret=>exact fin he
 | ext i=>exact he.elim
 | gto i=>exact he.elim
end Go.Proofs
namespace Go.Proofs
open Go.RowKit Go.Shelf
attribute [local go_sem] Oper.semAt_some
theorem zfr2 {W:World} {b i:Nat} {cs:Array Value} {t:TypeId} (h:W.heap[b]?=some (.cells cs t (0,0))):W.frozen? ⟨b,i,none⟩=false:=by
 simp [World.frozen?,h]
theorem zog1 {W:World} {b c i:Nat} {v:Value} (h:b≠c):(W.setCell ⟨c,i,none⟩ v).heap[b]?=W.heap[b]?:=by
 show (W.heap.modify c _)[b]?=_
 rw [Array.getElem?_modify,if_neg (Ne.symm h)]
theorem zra1 {W:World} {c:Nat} {u v:Value} {t:TypeId} (h:W.heap[c]?=some (.cells #[u] t (0,0))):(W.setCell ⟨c,0,none⟩ v).heap[c]?=some (.cells #[v] t (0,0)):=by
 show (W.heap.modify c _)[c]?=_
 rw [Array.getElem?_modify,if_pos rfl,h]
 rfl
set_option maxHeartbeats 4000000 in
theorem zfs2 {k:Lf.Hp} {pb:Nat} {cursor:Int} {len:Nat} {ptr:Nat->Addr} {vals:Nat->Nat} {w:World} {Kq:(Lf.shRes Lf.tb Tryz.f160.resultTypes.toList).T->Lf.Hp->Prop} (hs:Lf.Sub k w)
  (hl:0<len/\len<=1000) (num:Nat->TkN len) (hnum:∀j,j<len->tkNum cursor len j=(num j).1)
  (hround:∀W,Lf.Sub k W->Calls Tryz.prog 197 #[.pointer (some ⟨pb,0,none⟩)] W fun e W'=>∃A A1:Nat,e=.returned (.func (.func 218) #[] #[.pointer (some ⟨A1,0,none⟩),.pointer (some ⟨A,0,none⟩)])/\(W.heap.size<=A/\A<W'.heap.size)/\(W.heap.size<=A1/\A1<W'.heap.size)/\
   W'.cell? ⟨A,0,none⟩=some (.int .i64 cursor)/\W'.cell? ⟨A1,0,none⟩=some (.int .i64 (len:Int))/\Below W.heap.size W W')
  (lb:Nat) (lo lc:Nat) (hlane:∀W,Lf.Sub k W->W.cell? ⟨pb,0,none⟩=some (.slice (some ⟨lb,lo,none⟩) len lc))
  (hptr:∀j,j<len->∀W,Lf.Sub k W->W.cell? ⟨lb,lo+j,none⟩=some (.pointer (some (ptr j))))
  (hlen:∀j,j<len->∀W,Lf.Sub k W->Calls Tryz.prog 198 #[.pointer (some (ptr j))] W fun e W'=>e=.returned (.int .i64 (vals j:Int))/\Below W.heap.size W W')
  (hno:(∀j,j<len->vals (num j).1.toNat=0)->Lf.takeX (some ⟨pb,0,none⟩) (-1) Kq k)
  (hyes:∀j,j<len->(∀i,i<j->vals (num i).1.toNat=0)->vals (num j).1.toNat≠0->Lf.takeX (some ⟨pb,0,none⟩) (num j).1 Kq k):
  Calls Tryz.prog 160 #[.pointer (some ⟨pb,0,none⟩)] w (fun e w'=>∃u h',e=.returned u/\(∃x,u=(Lf.shRes Lf.tb Tryz.f160.resultTypes.toList).enc x/\Kq x h')/\Lf.Step k h' w w'):=by
 refine callsIn_wide.1 (callsIn_of_wp_marks (n:=3) Tryz.func160 rfl trivial ?_ rfl)
 simp only [Tryz.ntmps160,List.size_toArray,List.length_cons,List.length_nil,Nat.reduceAdd,Nat.reduceSub,Array.replicate_succ,Array.replicate_zero,List.push_toArray,List.append_toArray,List.nil_append,List.cons_append]
 gi_wp2
 refine (show ∀T,T=Lf.takeTail->Code.wpIn Fence.wide 3 Tryz.prog (Code.scope (Code.seq _ (Code.seq _ (Code.seq (Code.seq _ (Code.block _ (Code.rangeFunc _ _ _ _))) T)))) _ _ _ from fun T hT=> ?_) _ rfl
 refine wpIn_wide.2 (wp_scope_straight ((wpIn_wide (n:=3)).1 (wpIn_seq_k fun K1 hK1=> ?_)))
 gi_wp2
 rename_i K hK
 refine wpIn_wide.2 (wp_label (hK _ _ ?_))
 clear hK
 have hsz:(((w.alloc (Obj.cells #[Value.pointer (some ⟨pb,0,none⟩)] 106)).alloc (Obj.cells #[Value.int IntKind.i64 (-1)] 3)).alloc (Obj.cells #[Value.int IntKind.i64 0,Value.int IntKind.i64 0] 149)).heap.size=w.heap.size+3:=by simp
 obtain ⟨W0,hW0⟩:∃W0,((w.alloc (Obj.cells #[Value.pointer (some ⟨pb,0,none⟩)] 106)).alloc (Obj.cells #[Value.int IntKind.i64 (-1)] 3)).alloc (Obj.cells #[Value.int IntKind.i64 0,Value.int IntKind.i64 0] 149)=W0:=⟨_,rfl⟩
 have b0:W0.heap[w.heap.size]?=some (.cells #[Value.pointer (some ⟨pb,0,none⟩)] 106):=by
  rw [<-hW0,zut,if_neg (by simp;omega),zut,if_neg (by simp),zut,if_pos rfl]
 have b1:W0.heap[w.heap.size+1]?=some (.cells #[Value.int IntKind.i64 (-1)] 3):=by
  rw [<-hW0,zut,if_neg (by simp),zut,if_pos (by simp)]
 have b2:W0.heap[w.heap.size+2]?=some (.cells #[Value.int IntKind.i64 0,Value.int IntKind.i64 0] 149):=by
  rw [<-hW0,zut,if_pos (by simp)]
 have bo:Below w.heap.size w W0:=by
  rw [<-hW0]
  exact (((Below.refl _ w).alloc (Nat.le_refl _) _).alloc (by simp) _).alloc (by simp;omega) _
 rw [hW0] at hsz ⊢
 have c0:W0.cell? ⟨w.heap.size,0,none⟩=some (.pointer (some ⟨pb,0,none⟩)):=zqz1 b0
 have hs0:Lf.Sub k W0:=fun b o e=>(bo.block b (hs.lt e)).trans (hs b o e)
 have hr:=hround W0 hs0
 refine wpIn_seq_k fun K hK=> ?_
 gi_wp2_with (refine ⟨trivial,?_⟩;gi_at_call 197;refine (callsIn_wide.2 hr).mono ?_;rintro e W2 ⟨A,A1,rfl,hA,hA1,hcA,hcA1,hB⟩)
 clear hr hround
 have cB:w.heap.size+1<W2.heap.size:=by have:=hB.size;omega
 have w0:W2.heap[w.heap.size]?=some (.cells #[Value.pointer (some ⟨pb,0,none⟩)] 106):=(hB.block _ (by omega)).trans b0
 have w1:W2.heap[w.heap.size+1]?=some (.cells #[Value.int IntKind.i64 (-1)] 3):=(hB.block _ (by omega)).trans b1
 have w2:W2.heap[w.heap.size+2]?=some (.cells #[Value.int IntKind.i64 0,Value.int IntKind.i64 0] 149):=(hB.block _ (by omega)).trans b2
 have ww:Below w.heap.size w W2:=bo.trans (hB.mono (by omega))
 have subG:∀ {v W},TkG W2.heap.size (w.heap.size+1) W2 v W->Lf.Sub k W/\Below w.heap.size w W/\W.heap[w.heap.size]?=some (.cells #[Value.pointer (some ⟨pb,0,none⟩)] 106)/\W.heap[w.heap.size+2]?=some (.cells #[Value.int IntKind.i64 0,Value.int IntKind.i64 0] 149):=fun {v W} g=>by
  have hb:Below w.heap.size w W:=⟨g.os.trans ww.os,g.tape.trans ww.tape,g.output.trans ww.output,by have:=g.size;have:=ww.size;omega,fun b hb=>(g.same b (by omega) (by omega)).trans (ww.block b hb)⟩
  exact ⟨fun b o e=>(hb.block b (hs.lt e)).trans (hs b o e),hb,(g.same _ (by omega) (by omega)).trans w0,(g.same _ (by omega) (by omega)).trans w2⟩
 have tail:∀ {v W D} {x7 x8 x9 x10:Value},TkG W2.heap.size (w.heap.size+1) W2 v W->W2.heap.size<=D->W.heap[D]?=some (.deferred (some []))->Lf.takeX (some ⟨pb,0,none⟩) v Kq k->
   K {tmps:=zae2 ⟨pb,0,none⟩ w x7 x8 x9 x10,defers:=[{target:=.collected D,args:= #[]}]} W:=fun {v W D x7 x8 x9 x10} g hD hK2 ht=>by
  obtain ⟨q1,q2,q3,q4⟩:=subG g
  refine hK _ _ (wpIn_wide.2 ?_)
  rw [hT]
  exact zfq2 hs q2 q3 g.box q4 (by omega) hK2 ht
 refine wpIn_rangeFunc_ownF (α:=TkN len) rfl (by decide) (gf:=218) (lb:= #[Value.pointer (some ⟨A1,0,none⟩),Value.pointer (some ⟨A,0,none⟩)]) rfl trivial (enters_of Tryz.func218 (by kernel_rfl) rfl)
  (encs:=fun x=> #[.int .i64 x.1]) (Kp:=fun W W'=>W'.cell? ⟨A,0,none⟩=W.cell? ⟨A,0,none⟩/\W'.cell? ⟨A1,0,none⟩=W.cell? ⟨A1,0,none⟩)
  (S:=fun ys=>ys=zud num len) (Sp:=fun pre=>∃k,k<=len/\pre=zud num k) (N:=len) (w0:=W2)
  (fun l J Jx W hW _ _ hY h0=>zad2 2 (by decide) l A A1 cursor len hl.1 hl.2 num hnum _ (fun _ _ h=>h) J Jx hY W ((hW.cell (p:=⟨A,0,none⟩) hA.2).trans hcA) ((hW.cell (p:=⟨A1,0,none⟩) hA1.2).trans hcA1) h0)
  (fun h1 h2=>⟨h2.1.trans h1.1,h2.2.trans h1.2⟩)
  (fun W l o o' hl2 _ _ _=>⟨zzc (World.putObj_heap_other (by omega)),zzc (World.putObj_heap_other (by omega))⟩)
  (Below.refl _ _) (fun _=>rfl)
  (fun pre W=>TkG W2.heap.size (w.heap.size+1) W2 (-1) W/\∀y∈pre,vals y.1.toNat=0)
  (fun c pre W=>c=.exit 0/\∃pre' x,pre=pre'++ [x]/\(∀y∈pre',vals y.1.toNat=0)/\vals x.1.toNat≠0/\TkG W2.heap.size (w.heap.size+1) W2 x.1 W)
  (fun s A B row hs hg hr=>⟨hs.1.grown cB hg hr,hs.2⟩)
  (fun c s A B row hs hg hr=>by
   obtain ⟨e,pre',x,h1,h2,h3,h4⟩:=hs
   exact ⟨e,pre',x,h1,h2,h3,h4.grown cB hg hr⟩)
  ⟨⟨fun _ _ _=>rfl,w1,Nat.le_refl _,rfl,rfl,rfl⟩,fun y hy=>by cases hy⟩
  (fun x=>{tmps:= #[Value.pointer (some ⟨pb,0,none⟩),Value.pointer (some ⟨w.heap.size,0,none⟩),Value.int IntKind.i64 0,Value.pointer (some ⟨w.heap.size+1,0,none⟩),Value.pointer (some ⟨w.heap.size+1+1,0,none⟩),Value.bool false,Value.int IntKind.i64 0,.int .i64 x.1,Value.pointer (some ⟨pb,0,none⟩),Value.func (Fn.func 218) #[] #[Value.pointer (some ⟨A1,0,none⟩),Value.pointer (some ⟨A,0,none⟩)],.int .i64 x.1,undef,undef,undef,undef,undef,undef,undef,undef,undef,undef,undef,undef,undef,undef,undef,undef,undef,undef,undef,undef,undef,undef,undef,undef,undef,undef,undef,undef,undef,undef,undef,undef,undef,undef,undef,undef,undef,undef,undef,undef,undef,undef],defers:=[]})
  ?assign ?body ?done ?stop
 case assign=>
  intro l x W K hK
  gi_wp2
  exact hK
 case body=>
  rintro l pre x W ⟨g,hz⟩ _
  obtain ⟨q1,q2,q3,q4⟩:=subG g
  have d0:W.cell? ⟨w.heap.size,0,none⟩=some (.pointer (some ⟨pb,0,none⟩)):=zqz1 q3
  have d1:W.cell? ⟨pb,0,none⟩=some (.slice (some ⟨lb,lo,none⟩) len lc):=hlane W q1
  have xl:x.1.toNat<len:=by have:=x.2;omega
  have x0:=x.2
  have d2:W.cell? ⟨lb,lo+x.1.toNat,none⟩=some (.pointer (some (ptr x.1.toNat))):=hptr _ xl W q1
  have hc:=hlen _ xl W q1
  by_cases hv:vals x.1.toNat=0
  ·rw [hv] at hc
   gi_wp2_with (refine ⟨trivial,?_⟩;gi_at_call 198;refine (CallsIn.inRound l (callsIn_wide.2 hc)).mono ?_;rintro e W3 ⟨rfl,hB3⟩)
   have hlt:∀b o,W.heap[b]?=some o->W3.heap[b]?=some o:=fun b o e=>(hB3.block b (Lf.heap_lt e)).trans e
   have gsz:=g.size
   refine ⟨⟨hB3.size,fun b o e _=>hlt b o e⟩,⟨zzc (hB3.block _ (by omega)),zzc (hB3.block _ (by omega))⟩,⟨fun b hb hne=>(hB3.block b (by omega)).trans (g.same b hb hne),hlt _ _ g.box,Nat.le_trans g.size hB3.size,hB3.os.trans g.os,hB3.tape.trans g.tape,hB3.output.trans g.output⟩,fun y hy=> ?_⟩
   rcases List.mem_append.1 hy with hy | hy
   ·exact hz y hy
   ·rw [List.mem_singleton.1 hy];exact hv
  ·have hv2:0<vals x.1.toNat:=Nat.pos_of_ne_zero hv
   gi_wp2_with (refine ⟨trivial,?_⟩;gi_at_call 198;refine (CallsIn.inRound l (callsIn_wide.2 hc)).mono ?_;rintro e W3 ⟨rfl,hB3⟩;have hb3:=(hB3.block _ (Lf.heap_lt g.box)).trans g.box;have hcb:W3.cell? ⟨w.heap.size+1,0,none⟩=some (.int .i64 (-1)):=zqz1 hb3;have hfb:W3.frozen? ⟨w.heap.size+1,0,none⟩=false:=zfr2 hb3)
   have gsz:=g.size
   refine ⟨⟨Nat.le_trans hB3.size (KeepsOthers.setCell _ _ _).size,fun b o e ho=>(KeepsOthers.setCell _ _ _).same b o ((hB3.block b (Lf.heap_lt e)).trans e) ho⟩,rfl,pre,x,rfl,hz,hv,?_⟩
   have hset:(W3.setCell ⟨w.heap.size+1,0,none⟩ (.int .i64 x.1))=(W3.setCell ⟨w.heap.size+1,0,none⟩ (.int .i64 x.1)):=rfl
   refine ⟨fun b hb hne=> ?_,?_,?_,hB3.os.trans g.os,hB3.tape.trans g.tape,hB3.output.trans g.output⟩
   ·rw [zog1 hne]
    exact (hB3.block b (by omega)).trans (g.same b hb hne)
   ·exact zra1 hb3
   ·exact Nat.le_trans g.size (Nat.le_trans hB3.size (KeepsOthers.setCell _ _ _).size)
 case done=>
  rintro D ys W hD rfl ⟨g,hz⟩ hK2
  gi_wp2
  refine tail (x7:=undef) (x8:=Value.pointer (some ⟨pb,0,none⟩)) (x9:=Value.func (Fn.func 218) #[] #[Value.pointer (some ⟨A1,0,none⟩),Value.pointer (some ⟨A,0,none⟩)]) (x10:=undef) g hD hK2 (hno fun j hj=>hz _ ?_)
  exact List.mem_map.2 ⟨j,List.mem_range.2 hj,rfl⟩
 case stop=>
  rintro D c pre W hD hSp ⟨rfl,pre',x,h1,h2,h3,g⟩ hK2
  gi_wp2
  obtain ⟨k1,hk1,e1⟩:=hSp
  rw [h1] at e1
  cases k1 with
  | zero=>simp [zud] at e1
  | succ j=>
   rw [tkUpto_succ] at e1
   obtain ⟨e2,e3⟩:=List.append_inj' e1 rfl
   have e3:x=num j:=by simpa using e3
   refine tail (x7:=undef) (x8:=Value.pointer (some ⟨pb,0,none⟩)) (x9:=Value.func (Fn.func 218) #[] #[Value.pointer (some ⟨A1,0,none⟩),Value.pointer (some ⟨A,0,none⟩)]) (x10:=undef) g hD hK2 ?_
   rw [e3]
   refine hyes j (by omega) (fun i hi=> ?_) (by rw [<-e3];exact h3)
   exact h2 _ (by rw [e2];exact List.mem_map.2 ⟨i,List.mem_range.2 hi,rfl⟩)
end Go.Proofs
namespace Lf
open Go Go.Proofs Go.RowKit
def zaf2 (P:Program) (p:Option Addr) (lane:Int) (Q:(Int->(Int->(S_api_Waiter->(Bool->(Int->(Hp->Prop))))))) (h:Hp):Prop:=
 (if (decide (lane<(0:Int)))=true then
 Q (0:Int) (0:Int) ⟨(0:Int),(0:Int)⟩ false (21:Int) h
 else
 NilW none p fun p1=>
 LdW none shSl h (Addr.add p1 0) fun x=>
 (((x.len:Nat):Int)≠(0:Int)/\NilW none p fun p2=>
 StW h (Addr.add p2 1) [(.int .i64 (Int.tmod (IntKind.wrap .i64 (lane+(1:Int))) ((x.len:Nat):Int)))] (fun h1=>
 NilW none p fun p3=>
 LdW none shSl h1 (Addr.add p3 0) fun x1=>
 ((InB x1.base x1.len lane)/\LdW none shPtr h1 (sat x1.base 1 lane) fun x2=>
 Call4 P zlg [(.pointer x2)] (shInt .i64) sh_api_Waiter zae (shInt .i64) (fun r r1 r2 r3 h2=>
 ((True/\True)/\Q r lane r1 r2 r3 h2)) h1))))
theorem zag2 (p:Option Addr) (lane:Int) (Q:Int->Int->S_api_Waiter->Bool->Int->Hp->Prop) (h:Hp):takeX p lane (fun x h'=>Q x.1 x.2.1 x.2.2.1 x.2.2.2.1 x.2.2.2.2 h') h=zaf2 Tryz.prog p lane Q h:=by kernel_rfl
section
variable {h0 k:Hp}
theorem ztq1 {h:Hp} {a:Addr} {cs:List Value} {i:Nat} {v:Value} (l:LdIs h a cs) (e:cs[i]?=some v):hcell h (a.add i)=some v:=l i v e
theorem zrb1 {P:Program} {g:FuncId} {args:List Value} {sh:Shape} {K:sh.T->Hp->Prop} {w:World} (hs:Sub k w) (hc:CallT P g args sh (fun x h'=>h'=k/\K x h') k):Calls P g args.toArray w fun e w'=>∃x,e=.returned (sh.enc x)/\K x k/\Below w.heap.size w w':=by
 refine (hc w hs).mono ?_
 rintro e w' ⟨v,h',rfl,⟨x,rfl,rfl,hk⟩,st⟩
 refine ⟨x,rfl,hk,st.os,st.tape,st.output,st.size,fun b hb=> ?_⟩
 cases e:h' b with
 | none=>exact (st.keep b hb e).1
 | some o=>rw [st.sub b o e,hs b o e]
theorem zgi1 {α:Type} {l:List α} {i:Nat} {d:α} (h:i<l.length):l[i]?=some (l.getD i d):=by
 simp [List.getD,List.getElem?_eq_getElem h]
theorem zgj1 {α:Type} {f:α->Value}:∀ {l:List α},l.flatMap (fun a=> [f a])=l.map f
 | []=>rfl
 | a::r=>by rw [List.flatMap_cons,zgj1,List.map_cons];rfl
theorem zoh1 {α:Type} {n:Nat} {f:Nat->α} {q:α->Bool} (h:∀j,j<n->q (f j)=false):((List.range n).map f).find? q=none:=by
 rw [List.find?_eq_none]
 intro x hx
 obtain ⟨j,hj,rfl⟩:=List.mem_map.1 hx
 rw [h j (List.mem_range.1 hj)]
 decide
theorem zah2 {α:Type} {n:Nat} {f:Nat->α} {q:α->Bool} {j:Nat} (hj:j<n) (h:∀i,i<j->q (f i)=false) (h2:q (f j)=true):((List.range n).map f).find? q=some (f j):=by
 have e:List.range n=List.range j++j::(List.range (n-j-1)).map (fun i=>j+1+i):=by
  rw [show n=j+(1+(n-j-1)) by omega,List.range_add,List.range_add]
  simp [Nat.add_assoc]
 rw [e,List.map_append,List.find?_append,zoh1 h,List.map_cons,List.find?_cons_of_pos h2]
 rfl
theorem zdd2 :zcw1:=by
 intro h0 k p room cursor ls Q o hl hcur hno hyes
 obtain ⟨x,ptrs,e1,e2,oB⟩:=o.postX
 obtain ⟨pb,rfl,hblk,hpn⟩:=(Has.left oB).rec_
 have hlen:=oB.right.left.slen
 have hsrw:Rw k 1 eP x.lanes ptrs:=oB.right.left.srw fun _=>rfl
 have hpos:0<ls.length:=by omega
 obtain ⟨lb,lo,hbase,hldl⟩:∃lb lo,x.lanes.base=some ⟨lb,lo,none⟩/\LdIs k ⟨lb,lo,none⟩ (ptrs.flatMap eP):=by
  obtain ⟨_,F,⟨q1,q2,q3⟩,_⟩:=oB.right.left
  rcases q3 with ⟨h,_⟩ | ⟨b,off,cs,h1,_⟩
  ·have:=oB.right.left.scap
   obtain ⟨_,F,⟨q1,q2,q3⟩,_⟩:=oB.right.left
   rcases q3 with ⟨_,h2,_⟩ | ⟨b,off,cs,h1,_⟩
   ·omega
   ·rw [h] at h1;cases h1
  ·rcases hsrw.2.2 with h | ⟨a,h3,h4⟩
   ·omega
   ·rw [h1] at h3;cases h3
    exact ⟨b,off,h1,h4⟩
 have hflat:∀j,j<ls.length->(ptrs.flatMap eP)[j]?=some (.pointer (some (ptrs.getD j a0))):=fun j hj=>by
  rw [show ptrs.flatMap eP=ptrs.map fun a=>Value.pointer (some a) from zgj1,List.getElem?_map,zgi1 (d:=a0) (by omega)]
  rfl
 have hrec:Has h0 (RecA zny ⟨pb,0,none⟩ x) k:=Has.left oB
 have hlane0:hcell k ⟨pb,0,none⟩=some x.lanes.v:=ztq1 (i:=0) (hrec.ldis (off:=0) (n:=2) (vs:=[x.lanes.v,.int .i64 x.cursor]) rfl) rfl
 have hp0:Has h0 (PostA ⟨pb,0,none⟩ room ls cursor) k:=oB.ofPost e1 e2
 let num:Nat->TkN ls.length:=fun j=>⟨(((cursor.toNat+j)%ls.length:Nat):Int),by omega,by have:=Nat.mod_lt (cursor.toNat+j) hpos;omega⟩
 let vals:Nat->Nat:=fun j=>(ls.getD j laneZ).values.length
 have hfirst:∀j,j<ls.length->((match ls[(cursor.toNat+j)%ls.length]? with | some x=> !x.values.isEmpty | none=>false)=true↔vals (num j).1.toNat≠0):=fun j hj=>by
  have hlt:=Nat.mod_lt (cursor.toNat+j) hpos
  show _↔(ls.getD ((((cursor.toNat+j)%ls.length:Nat):Int)).toNat laneZ).values.length≠0
  rw [Int.toNat_natCast,zgi1 (d:=laneZ) hlt]
  generalize ls.getD ((cursor.toNat+j)%ls.length) laneZ=l
  show (!l.values.isEmpty)=true↔_
  cases l.values<;>simp
 have key:CallE Tryz.prog zle [.pointer (some ⟨pb,0,none⟩)] (fun v h'=>∃x,v=(shRes tb Tryz.f160.resultTypes.toList).enc x/\(fun (x:(zrf1 (shInt .i64) (shInt .i64) sh_api_Waiter zae (shInt .i64)).T) h'=>Q x.1 x.2.1 x.2.2.1 x.2.2.2.1 x.2.2.2.2 h') x h') k:=by
  intro w hs
  refine zfs2 (len:=ls.length) (cursor:=cursor) (ptr:=fun j=>ptrs.getD j a0) (vals:=vals) (num:=num) hs ⟨hpos,by omega⟩ (fun j hj=> ?_) (fun W hW=> ?_) lb lo x.lanes.cap (fun W hW=> ?_) (fun j hj W hW=> ?_) (fun j hj W hW=> ?_) (fun hz=> ?_) (fun j hj hz hv=> ?_)
  ·show (Go.RowKit.wrap64 (cursor+(j:Int))).tmod (ls.length:Int)=(((cursor.toNat+j)%ls.length:Nat):Int)
   have:Go.RowKit.wrap64 (cursor+(j:Int))=((cursor.toNat+j:Nat):Int):=by
    unfold Go.RowKit.wrap64
    omega
   rw [this]
   rfl
  ·refine (show CallT Tryz.prog zpg [shPtr.enc (some ⟨pb,0,none⟩)] shFn (fun v h'=>k<=h'/\∃A A1:Nat,k A=none/\k A1=none/\v=⟨218, #[], #[.pointer (some ⟨A1,0,none⟩),.pointer (some ⟨A,0,none⟩)]⟩/\LdIs h' ⟨A,0,none⟩ [.int .i64 cursor]/\LdIs h' ⟨A1,0,none⟩ [.int .i64 (ls.length:Int)]) k from ?_) W hW |>.mono ?_
   ·refine zvc ?_
    unfold zpi
    refine zaa (hrec.ld (shf:=shInt .i64) x.cursor (off:=1) rfl ?_)
    refine zaa (hrec.ld (shf:=shSl) x.lanes (off:=0) rfl ?_)
    intro b ty hn
    have l1:=zcv (o:=.cells #[Value.int .i64 0] ty (0,0)) hn
    have hb:Blk (k.set b (.cells #[Value.int .i64 0] ty (0,0))) b [.int .i64 0]:=⟨ty,zbx⟩
    refine ⟨⟨zbp l1 (hrec.ldis (off:=1) (n:=1) (vs:=[.int .i64 x.cursor]) rfl),zbp l1 (hrec.ldis (off:=0) (n:=1) (vs:=[x.lanes.v]) rfl),trivial⟩,?_⟩
    refine zsy hb (off:=0) (new:=[.int .i64 x.cursor]) (by simp) fun h2 m hb2=> ?_
    have l2:k<=h2:=fun c ob e=>m.keep c ob (l1 c ob e) fun hc=>by rw [List.mem_singleton.1 hc,hn] at e;cases e
    refine ⟨⟨zbp l2 (hrec.ldis (off:=0) (n:=1) (vs:=[x.lanes.v]) rfl),trivial⟩,?_⟩
    intro b2 ty2 hn2
    have l3:=zcv (o:=.cells #[Value.int .i64 ((x.lanes.len:Nat):Int)] ty2 (0,0)) hn2
    refine ⟨Hp.le_trans l2 l3,b,b2,hn,zct l2 hn2,rfl,zbp l3 ?_,?_⟩
    ·rw [<-e1]
     exact hb2.ldIs (off:=0) (n:=1) rfl
    ·have:=zqf (h:=h2) (b:=b2) (t:=ty2) (cs:=[Value.int .i64 ((x.lanes.len:Nat):Int)])
     rw [hlen,e2] at this ⊢
     exact this
   ·rintro e W' ⟨v,h',rfl,⟨fv,rfl,kl,A,A1,nA,nA1,rfl,lA,lA1⟩,st⟩
    have cA:∃o,h' A=some o:=by
     have:=lA 0 _ rfl
     cases e:h' A with
     | some o=>exact ⟨o,rfl⟩
     | none=>simp [hcell,e,Addr.add] at this
    have cA1:∃o,h' A1=some o:=by
     have:=lA1 0 _ rfl
     cases e:h' A1 with
     | some o=>exact ⟨o,rfl⟩
     | none=>simp [hcell,e,Addr.add] at this
    obtain ⟨oA,cA⟩:=cA
    obtain ⟨oA1,cA1⟩:=cA1
    refine ⟨A,A1,rfl,⟨Nat.le_of_not_lt fun hlt=> ?_,st.sub.lt cA⟩,⟨Nat.le_of_not_lt fun hlt=> ?_,st.sub.lt cA1⟩,zga st.sub (lA 0 _ rfl),zga st.sub (lA1 0 _ rfl),st.os,st.tape,st.output,st.size,fun b hb=> ?_⟩
    ·have:=(st.keep A hlt nA).2;rw [cA] at this;cases this
    ·have:=(st.keep A1 hlt nA1).2;rw [cA1] at this;cases this
    ·cases e:k b with
     | none=>exact (st.keep b hb e).1
     | some o=>rw [st.sub b o (kl b o e),hW b o e]
  ·rw [zga hW hlane0]
   show some (Value.slice x.lanes.base x.lanes.len x.lanes.cap)=_
   rw [hbase,hlen,e2]
  ·have:=ztq1 hldl (hflat j hj)
   rw [zba] at this
   exact zga hW this
  ·obtain ⟨h1,l1,oL,_⟩:=oB.lane1 (zgi1 (d:=laneZ) hj)
   refine (zrb1 (sh:=shInt .i64) (K:=fun r _=>r=((ls.getD j laneZ).values.length:Int)) hW (zyq (zgi2 oL ⟨rfl,rfl⟩))).mono ?_
   rintro e W' ⟨r,rfl,rfl,hb⟩
   exact ⟨rfl,hb⟩
  ·refine Eq.mpr (zag2 (some ⟨pb,0,none⟩) (-1) Q k) ?_
   unfold zaf2
   rw [if_pos (by decide)]
   refine hno (zoh1 fun j hj=> ?_) k hp0
   have:=hfirst j hj
   rw [hz j hj] at this
   exact Bool.eq_false_iff.2 fun e=>this.1 e rfl
  ·refine Eq.mpr (zag2 (some ⟨pb,0,none⟩) (num j).1 Q k) ?_
   unfold zaf2
   have hx0:=(num j).2
   rw [if_neg (by simp;omega)]
   have hf:zvl cursor ls=some (num j).1.toNat:=by
    unfold zvl
    rw [zah2 hj (fun i hi=> ?_) ((hfirst j hj).2 hv)]
    ·show some ((cursor.toNat+j)%ls.length)=some ((((cursor.toNat+j)%ls.length:Nat):Int)).toNat
     rw [Int.toNat_natCast]
    ·have:=hfirst i (by omega)
     rw [hz i hi] at this
     exact Bool.eq_false_iff.2 fun e=>this.1 e rfl
   generalize (num j).1=y at hx0 hf hv
   obtain ⟨i,rfl⟩:∃i:Nat,y=(i:Int):=⟨y.toNat,by omega⟩
   rw [Int.toNat_natCast] at hf hv
   have hi:i<ls.length:=by omega
   refine zaa (hrec.ld (shf:=shSl) x.lanes (off:=0) rfl ⟨by omega,?_⟩)
   obtain ⟨g1,_,oR,put⟩:=oB.f1
   have etm:Int.tmod (IntKind.wrap .i64 ((i:Int)+1)) ((x.lanes.len:Nat):Int)=((i+1:Nat):Int)%(ls.length:Int):=by
    rw [wrap64 (by omega) (by omega),hlen,e2]
    rfl
   rw [etm]
   refine zaa (oR.st ({x with cursor:=((i+1:Nat):Int)%(ls.length:Int)}:S_post_Post) (off:=1) (new:=[.int .i64 (((i+1:Nat):Int)%(ls.length:Int))]) (by show 1+1<=2;omega) rfl fun k2 o2=> ?_)
   have oB2:=put _ _ o2
   refine zaa (o2.ld (shf:=shSl) x.lanes (off:=0) rfl ?_)
   have oB3:Has h0 (PostB ⟨pb,0,none⟩ {x with cursor:=((i+1:Nat):Int)%(ls.length:Int)} ptrs room ls) k2:=oB2
   refine oB3.ptr e2 hi ?_
   obtain ⟨g2,_,oL,putL⟩:=oB3.lane1 (zgi1 (d:=laneZ) hi)
   have hget:=zgi1 (d:=laneZ) hi
   have hlm:=hl.2 _ (List.mem_of_getElem? hget)
   have hpost:∀ {l' k'},Has g2 (LaneA (ptrs.getD i a0) room l') k'->Has h0 (PostA ⟨pb,0,none⟩ room (ls.set i l') (((i+1:Nat):Int)%(ls.length:Int))) k':=fun o'=>(putL _ _ o').ofPost rfl (by rw [List.length_set];exact e2)
   refine zxl (zbl2 oL hlm.1 hlm.2 (fun e=> ?_) (fun v vs k' e e' o'=>⟨⟨trivial,trivial⟩,?_⟩) fun v vs z zs k' e e' o'=>⟨⟨trivial,trivial⟩,?_⟩)
   ·exact absurd (congrArg List.length e) hv
   ·have:=hyes i _ v vs hf hget e k' (hpost o')
    rw [e'] at this
    exact this
   ·have:=hyes i _ v vs hf hget e k' (hpost o')
    rw [e'] at this
    exact this
 exact key
end
end Lf
namespace Lf
open Go Go.Proofs Tryz
def MayP (c:PCfg) (s:zcf):Prop:=MayG c s fun (i:Nat) q=>fl c.labels (i:Int) q=true
abbrev RS :Type:=Except (Int×Nat) Nat
section
variable {α β:Type} {bs:List UInt8} {r r1 r2:RS}
end
def st0 :S_api_State:=⟨0,⟨none,0,0⟩,⟨none,0,0⟩⟩
section
variable {P:Program} {h:Hp} {Q:Bool->Hp->Prop}
theorem zrc1 {x y:S_api_Entry} (h:zni x=zni y):x=y:=by
 cases x;cases y;simp [zni] at h;simp [h]
end
structure zgs2 (l:PLane):Prop where
 values:l.values.length<=140737488355328
 waiters:l.waiters.length<=140737488355328
structure StLe (s:zcf):Prop where
 parts:s.parts.length<=140737488355328
 procs:s.procs.length<=140737488355328
 log:∀x∈s.parts,x.log.length<=140737488355328/\x.owners.length<=140737488355328/\x.queues.length<=140737488355328/\∀q∈x.queues,q.length<=140737488355328
 lanes:∀x∈s.procs,x.lanes.length<=140737488355328/\∀l∈x.lanes,zgs2 l
section
variable {h:Hp} {Q:Bool->Hp->Prop}
end
theorem Blk.rows {α:Type} {h:Hp} {b:Nat} {cs:List Value} {sz:Nat} {enc:α->List Value} (k:Blk h b cs) (xs:List α) {n m:Nat} (hc:cs=xs.flatMap enc) (hn:n=xs.length) (henc:∀x,(enc x).length=sz):Rw h sz enc ⟨some ⟨b,0,none⟩,n,m⟩ xs:=by
 refine ⟨hn,by rw [zao henc],.inr ⟨_,rfl,?_⟩⟩
 refine k.ldIs (off:=0) (n:=cs.length) ?_
 rw [List.drop_zero,List.take_length,hc]
end Lf
namespace Lf
open Go Go.ChangeShapes Go.WideShapes Go.ChangeAt Go.RowKit
def whole (W:World):Hp:=fun b=>W.heap[b]?
theorem zai2 (W:World):Sub (whole W) W:=fun _ _ e=>e
theorem zli1 {W W':World} {h':Hp} (hle:whole W<=h') (st:Step (whole W) h' W W'):Below W.heap.size W W':=
  ⟨st.os,st.tape,st.output,st.size,fun k hk=>by
    cases e:W.heap[k]? with
    | some o=>exact st.sub _ _ (hle _ _ e)
    | none=>simp at e;omega⟩
theorem zzd {H:Type} {enc:TypeId×Value->H} {P:Program} (hl:laidOutB P=true) {W W':World} {sp:Nat->Bool} (hb:Below W.heap.size W W'):∀ {ts:List TypeId} {vs:List Value} {ds:List (DataW H)} {ps:List MemPlace},
    (∀t∈ts,P.readableRec t=true/\t<P.types.size)->DataW.TrodAll enc P W 0 (fun _=>true) true ts vs ds ps->(∀x∈ps,x.block<W.heap.size)->(∀x∈ps,sp x.block=true)->DataW.TrodAll enc P W' 0 sp true ts vs ds ps
  | [],_,_,_,_,h,_,_=>by
    obtain ⟨rfl,rfl,rfl⟩:=trodAll_nil h
    exact trodAll_mk0
  | t::ts,_,_,_,hr,h,hlt,hs=>by
    obtain ⟨v,vs,d,ds,p,q,rfl,rfl,rfl,h1,h2⟩:=trodAll_cons h
    obtain ⟨hr1,hr2⟩:=hr t (List.mem_cons_self ..)
    exact ⟨p,q,WideElems.Trod_stays hl hr1 hr2 h1 (fun x hx=>hb.same (hlt x (List.mem_append_left _ hx))) (fun x hx=>hs x (List.mem_append_left _ hx)),
      zzd hl hb (fun t ht=>hr t (List.mem_cons_of_mem _ ht)) h2 (fun x hx=>hlt x (List.mem_append_right _ hx)) (fun x hx=>hs x (List.mem_append_right _ hx)),rfl⟩
theorem zde2 {H:Type} {enc:TypeId×Value->H} {P:Program} {f:Func} {s:ChangeSpec} {W W':World} {h':Hp} {args:Array Value} {ds gs:List (DataW H)} {before:List MemPlace} {t:TypeId} (hl:laidOutB P=true)
    (hrd:∀t∈f.params.toList,P.readableRec t=true/\t<P.types.size) (hvars:s.vars=[]) (hres:f.resultTypes= #[t]) (ht:P.underlying t=some .bool)
    (hfn:gs=[]->s.fn H (ds++gs)={results:=[.lit (.bool true)],args:=ds}) (hW:DataW.Whole enc P f.params.toList s.vars false W args.toList ds gs before) (hle:whole W<=h') (st:Step (whole W) h' W W'):
    s.post enc P f false true false false W args (.bool true) W':=by
  have hb:=zli1 hle st
  have hlt:∀p∈before,p.block<W.heap.size:=fun p hp=>hW.lt p hp
  have hW':=hW
  obtain ⟨p,q,hA,hV,rfl,hfz,hnd⟩:=hW'
  rw [hvars] at hV
  obtain ⟨rfl,rfl⟩:=trodVars_none hV
  rw [List.append_nil] at hlt
  have hsp:=hfn rfl
  refine ⟨ds,[],p++ [],[],p,[],hW,?_,?_,?_,Below.frame hb _,fun e=>(by cases e)⟩
  · rw [hsp,hres]
    exact trodAll_mk1 (shut_bool ht true)
  · rw [hsp]
    exact zzd hl hb hrd hA hlt (fun x hx=>by simpa using hlt x hx)
  · rw [hsp,hvars]
    exact rfl
theorem law_lifted {H:Type} {enc:TypeId×Value->H} {C:Checked} {os:Os} {f:FuncId} {fn:Func} {s:ChangeSpec} {t:TypeId} (own:ownKnob C.prog.godebug=none) (started:os.Started) (noInit:C.prog.inits.idxOf? f=none) (hf:C.prog.funcs[f]?=some fn)
    (witness:∃(w:World) (tape:Tape) (i:Input),w.os=os/\(w.forCall tape i).Shaped C.prog/\i.vars=[]/\Input.okWide C.prog (w.forCall tape i) .any w.heap.size f i/\
      s.pre6 enc C.prog fn [] false (w.forCall tape i).memory i.args/\({}:Assume).holds C.prog (lone (Frame.enter C.prog f i.args .normal) [] (w.forCall tape i)))
    (hl:laidOutB C.prog=true) (hrd:∀t∈fn.params.toList,C.prog.readableRec t=true/\t<C.prog.types.size) (hvars:s.vars=[]) (hres:fn.resultTypes= #[t]) (ht:C.prog.underlying t=some .bool)
    (walk:∀(W:World) (base:Nat) (args:Array Value) (ds:List (DataW H)) (p:List MemPlace),(∀(j:Nat) t v,fn.params[j]?=some t->args[j]?=some v->Value.okWide C.prog W .any base t v)->DataW.TrodAll enc C.prog W 0 (fun _=>true) true fn.params.toList args.toList ds p->
      s.fn H ds={results:=[.lit (.bool true)],args:=ds}/\CallT C.prog f args.toList zae (fun r h'=>r=true/\whole W<=h') (whole W)):
    ReturnsInHanded {} C os f .any (s.pre6 enc C.prog fn [] false) (s.post enc C.prog fn false true false false):=by
  refine returnsInHanded_of_change own started noInit hf witness ?_
  intro W base args ds gs before hval hW hcnd _
  have hW':=hW
  obtain ⟨p,q,hA,hV,_,hfz,hnd⟩:=hW'
  obtain ⟨hsp,hc⟩:=walk W base args ds p hval hA
  have hc':=hc W (zai2 W)
  simp only [Array.toArray_toList] at hc'
  refine hc'.mono fun e W' hh=> ?_
  obtain ⟨v,h',rfl,⟨x,rfl,rfl,hle⟩,hst⟩:=hh
  exact ⟨_,rfl,zde2 hl hrd hvars hres ht (fun e=>by rw [e,List.append_nil];exact hsp) hW hle hst⟩
end Lf
namespace Lf
open Go Go.Proofs Go.ChangeShapes Go.WideShapes Go.ChangeAt Go.RowKit
section
variable {H:Type} {enc:TypeId×Value->H} {W:World}
abbrev eU (x:Int):List Value:=zac ((shInt .u64).enc x)
end
end Lf
namespace Lf
open Go Go.Proofs Tryz
section
variable {c:PCfg} {t:zcf} {s:MS}
theorem zdf2 (m:CfgM c):MayP c t↔MayG c t fun i y=>flC c i y.toNat=true:=by
 have key:∀(p:Nat) x y,t.procs[p]?=some x->c.procs[p]?=some y->(ProcG c t (fun (i:Nat) q=>fl c.labels (i:Int) q=true) x y↔ProcG c t (fun i y=>flC c i y.toNat=true) x y):=fun p x y _ hy=>by
  have hp:=(m.part y (List.mem_of_getElem? hy)).1
  have e:∀i:Nat,flC c i y.part.toNat=fl c.labels (i:Int) y.part:=fun i=>by
   unfold flC
   rw [show ((y.part.toNat:Nat):Int)=y.part by omega]
  unfold ProcG
  simp only [e]
 unfold MayP MayG
 constructor
 ·rintro ⟨h1,h2,h3,h4⟩
  exact ⟨h1,h2,fun p x y hx hy=>(key p x y hx hy).1 (h3 p x y hx hy),h4⟩
 ·rintro ⟨h1,h2,h3,h4⟩
  exact ⟨h1,h2,fun p x y hx hy=>(key p x y hx hy).2 (h3 p x y hx hy),h4⟩
theorem regs8 {h:Hp} {y:S_api_State} (b:StateAt h y t):∀x∈t.procs,x.regs.length=8:=fun x hx=>by
 obtain ⟨ps,_,hall⟩:=b.procs
 obtain ⟨i,hi⟩:=List.mem_iff_getElem?.1 hx
 have:∃z,ps[i]?=some z/\ProcessAt h z x:=by
  have hl:=hall.len
  have hlt:=(List.getElem?_eq_some_iff.1 hi).1
  obtain ⟨z,hz,ha⟩:=hall.get (i:=i) (List.getElem?_eq_getElem (show i<ps.length by omega))
  rw [hi] at hz
  cases hz
  exact ⟨_,List.getElem?_eq_getElem (show i<ps.length by omega),ha⟩
 obtain ⟨z,_,ha⟩:=this
 rw [<-ha.regs]
 rfl
end
section
variable {k:Hp} {x:S_api_Config} {y:S_api_State} {c:PCfg} {t:zcf}
structure Stands (k:Hp) (c:PCfg) (t:zcf) (pm:Addr) (k':Hp):Prop where
 ex:∃K tm h1,K.c=c/\MkOk h1 K/\k<=h1/\Has h1 (MachA K pm (msOf t) tm) k'/\Tied c tm (msOf t)
 good:Good c (flC c) (msOf t) No No t.tick
 parts:t.parts.length=nP c
 procs:t.procs.length=nQ c
theorem zft2 {Q:Option Addr->Int->Hp->Prop} (a:CfgAt k x c) (hu:∀l∈c.labels,InU l) (hbad:∀k',k<=k'->(cfgE c).1≠0->Q none (cfgE c).1 k')
  (hok:∀pm k',(cfgE c).1=0->k<=k'->Stands k c ((zrt c).list c) pm k'->Q (some pm) 0 k'):zqp prog x Q k:=by
 unfold zqp
 refine zkf1 (zvl1 a fun k1 l1=> ?_)
 by_cases he:(cfgE c).1=0
 ·rw [he,if_neg (by decide)]
  have mc:=zge1 he
  refine zyl (zdc2 (a.mono l1) mc fun r k2 l2 hr=>⟨⟨trivial,trivial⟩,?_⟩)
  have hp:((zrt c).list c).parts.length=nP c:=by show ((List.range (nP c)).map _).length=_;simp
  have hq:((zrt c).list c).procs.length=nQ c:=by show ((List.range (nQ c)).map _).length=_;simp
  have l12:=Hp.le_trans l1 l2
  have g:=zaa2 mc (Good.may mc (Good.first (fl:=flC c) mc) (by show (0:Int)<=_;decide)) (regs8 hr)
  refine zay1 (zfo2 (a.mono l12) hr hu he (zfp2 mc g hp hq) fun K pm tm h1 k' e1 mk l3 o td=>hok pm k' he (Hp.le_trans l12 (Hp.le_trans l3 o.le)) ⟨⟨K,tm,h1,e1,mk,Hp.le_trans l12 l3,o,td⟩,g,hp,hq⟩)
 ·rw [if_pos (by simpa using he)]
  exact hbad k1 l1 he
end
section
variable {c:PCfg} {s:MS} {t:zcf}
theorem zfu2 {i:Nat} (hi:i<nP c):(msOf (s.list c)).part i=s.part i:=by
 show ((List.range (nP c)).map s.part).getD i part0=_
 exact zdm (by rw [List.getElem?_map,List.getElem?_range hi];rfl)
theorem zaj2 {i:Nat} (hi:i<nQ c):(msOf (s.list c)).proc i=s.proc i:=by
 show ((List.range (nQ c)).map s.proc).getD i proc0=_
 exact zdm (by rw [List.getElem?_map,List.getElem?_range hi];rfl)
theorem zwc1 :(s.list c).parts.length=nP c:=by show ((List.range (nP c)).map _).length=_;simp
theorem zwd1 :(s.list c).procs.length=nQ c:=by show ((List.range (nQ c)).map _).length=_;simp
theorem zio1 {K:MK} {pm:Addr} {tm:Nat->Nat->Int} (e:K.c=c):MachA K pm (msOf (s.list c)) tm=MachA K pm s tm:=by
 subst e
 unfold MachA
 have e1:Asn.first (fun i=>PartA K i ((msOf (s.list K.c)).part i) (tm i)) (nP K.c)=Asn.first (fun i=>PartA K i (s.part i) (tm i)) (nP K.c):=zbn fun i hi=>by rw [zfu2 hi]
 have e2:Asn.first (fun p=>ProcA K p ((msOf (s.list K.c)).proc p)) (nQ K.c)=Asn.first (fun p=>ProcA K p (s.proc p)) (nQ K.c):=zbn fun i hi=>by rw [zaj2 hi]
 rw [e1,e2]
 rfl
theorem zoi1 {tm:Nat->Nat->Int} (td:Tied c tm s):Tied c tm (msOf (s.list c)):=fun i id hi=>by
 rw [td i id hi]
 unfold zfw
 by_cases h:id / 2<nQ c/\pOf c (id / 2)=i
 ·rw [if_pos h,if_pos h,zaj2 h.1]
 ·rw [if_neg h,if_neg h]
theorem zfv2 (sa:Sane c (msOf t)) (m:CfgM c) (hp:t.parts.length=nP c) (hq:t.procs.length=nQ c):StLe t:=by
 have h1:=m.parts
 have h2:=m.procs
 refine ⟨by omega,by omega,fun x hx=> ?_,fun x hx=> ?_⟩
 ·obtain ⟨i,hi⟩:=List.mem_iff_getElem?.1 hx
  have hlt:=(List.getElem?_eq_some_iff.1 hi).1
  have e:(msOf t).part i=x:=zdm hi
  have sp:=sa.part i (by omega)
  rw [e] at sp
  have:=sp.logl
  have:=sp.ownl
  have:=sp.few.1
  exact ⟨by omega,by omega,by omega,fun q hq=>by have:=sp.few.2 q hq;omega⟩
 ·obtain ⟨i,hi⟩:=List.mem_iff_getElem?.1 hx
  have hlt:=(List.getElem?_eq_some_iff.1 hi).1
  have e:(msOf t).proc i=x:=zdm hi
  have sp:=sa.proc i (by omega)
  rw [e] at sp
  have:=sp.len
  exact ⟨by omega,fun l hl=>⟨by have:=(sp.lan l hl).values;omega,by have:=(sp.lan l hl).waiters;omega⟩⟩
end
def optA (K2:MK) (n:Option Addr) (t2:zcf) (tm2:Nat->Nat->Int):Asn:=match n with
 | none=>.fact True
 | some p=>MachA K2 p (msOf t2) tm2
structure Pair (h k:Hp) (c:PCfg) (t1 t2:zcf) (pm:Addr) (n:Option Addr):Prop where
 ex:∃K tm K2 tm2,K.c=c/\MkOk h K/\Tied c tm (msOf t1)/\(n≠none->K2.c=c/\MkOk h K2/\Tied c tm2 (msOf t2))/\Has h ((MachA K pm (msOf t1) tm).star (optA K2 n t2 tm2)) k
section
variable {h k:Hp} {c:PCfg} {t1 t2 t:zcf} {pm p2:Addr} {n:Option Addr}
theorem Pair.le (q:Pair h k c t1 t2 pm n):h<=k:=by
 obtain ⟨_,_,_,_,_,_,_,_,o⟩:=q.ex
 exact o.le
theorem Stands.pair (q:Stands k c t pm h):∃h1,k<=h1/\Pair h1 h c t t pm none:=by
 obtain ⟨K,tm,h1,e,mk,l,o,td⟩:=q.ex
 exact ⟨h1,l,⟨K,tm,K,tm,e,mk,td,fun hn=>absurd rfl hn,o.beside (Has.fact trivial (Hp.le_refl _))⟩⟩
theorem Pair.one (q:Pair h k c t1 t2 pm n):∃K tm h1,K.c=c/\MkOk h1 K/\Tied c tm (msOf t1)/\h<=h1/\Has h1 (MachA K pm (msOf t1) tm) k/\∀s' tm' k',Has h1 (MachA K pm s' tm') k'->Tied c tm' s'->Pair h k' c (s'.list c) t2 pm n:=by
 obtain ⟨K,tm,K2,tm2,e,mk,td,h2,o⟩:=q.ex
 obtain ⟨h1,l1,o1,_,put⟩:=o.fst
 refine ⟨K,tm,h1,e,mk.mono l1,td,l1,o1,fun s' tm' k' o' td'=>⟨K,tm',K2,tm2,e,mk,zoi1 td',h2,?_⟩⟩
 rw [zio1 e]
 exact put _ _ o'
theorem Pair.two (q:Pair h k c t1 t2 pm (some p2)):∃K tm h1,K.c=c/\MkOk h1 K/\Tied c tm (msOf t2)/\h<=h1/\Has h1 (MachA K p2 (msOf t2) tm) k/\∀s' tm' k',Has h1 (MachA K p2 s' tm') k'->Tied c tm' s'->Pair h k' c t1 (s'.list c) pm (some p2):=by
 obtain ⟨K,tm,K2,tm2,e,mk,td,h2,o⟩:=q.ex
 obtain ⟨e2,mk2,td2⟩:=h2 (by simp)
 obtain ⟨h1,l1,o1,_,put⟩:=o.snd
 refine ⟨K2,tm2,h1,e2,mk2.mono l1,td2,l1,o1,fun s' tm' k' o' td'=>⟨K,tm,K2,tm',e,mk,td,fun _=>⟨e2,mk2,zoi1 td'⟩,?_⟩⟩
 unfold optA
 dsimp only
 rw [zio1 e2]
 exact put _ _ o'
theorem Pair.base {P:Program} {g:FuncId} {args:List Value} {sh:Shape} {K0 K:sh.T->Hp->Prop} (q:Pair h k c t1 t2 pm n) (hc:CallT P g args sh (fun x h'=>h<=h'/\K0 x h') h) (hk:∀x h' k',h<=h'->K0 x h'->Pair h' k' c t1 t2 pm n->K x k'):CallT P g args sh K k:=by
 obtain ⟨K1,tm,K2,tm2,e,mk,td,h2,o⟩:=q.ex
 refine zbd1 o hc ?_
 rintro x h' k' ⟨l,h0⟩ o'
 exact hk x h' k' l h0 ⟨K1,tm,K2,tm2,e,mk.mono l,td,fun hn=>⟨(h2 hn).1,(h2 hn).2.1.mono l,(h2 hn).2.2⟩,o'⟩
theorem Pair.grow {k':Hp} (q:Pair h k c t1 t2 pm n) (l:k<=k'):Pair h k' c t1 t2 pm n:=by
 obtain ⟨K1,tm,K2,tm2,e,mk,td,h2,o⟩:=q.ex
 exact ⟨K1,tm,K2,tm2,e,mk,td,h2,o.grow l⟩
theorem Pair.alone (q:Pair h k c t1 t2 pm n):Pair h k c t1 t1 pm none:=by
 obtain ⟨K1,tm,K2,tm2,e,mk,td,h2,o⟩:=q.ex
 exact ⟨K1,tm,K1,tm,e,mk,td,fun hn=>absurd rfl hn,(Has.left o).beside (Has.fact trivial (Hp.le_refl _))⟩
theorem zak2 {s:MS} {p v:Int}:TW (zjx c s p v).1=TW s:=by
 unfold zjx
 split
 ·rfl
 ·split
  ·exact zgn rfl
  ·exact zqr1 rfl
end
section
variable {h k:Hp} {c:PCfg} {t1 t2 t:zcf} {pm p2:Addr} {n:Option Addr}
theorem Pair.state1 {Q:S_api_State->Hp->Prop} (q:Pair h k c t1 t2 pm n) (mc:CfgM c) (g:Good c (flC c) (msOf t1) No No t1.tick) (hp:t1.parts.length=nP c) (hq:t1.procs.length=nQ c)
  (hk:∀r h' k',h<=h'->StateAt h' r t1->Pair h' k' c t1 t2 pm n->Q r k'):zdb prog (some pm) Q k:=by
 obtain ⟨K,tm,K2,tm2,rfl,mk,td,h2,o⟩:=q.ex
 obtain ⟨h1,l1,o1,_,put⟩:=o.fst
 refine zzy1 (mk.mono l1) mc o1 (g.sane mc) td fun r k' o2=> ?_
 rw [zgd1 hp hq] at o2
 have o3:=Has.carry (put _) o2
 obtain ⟨h3,l3,o4,⟨F,⟨B,hB,_⟩,_⟩,_⟩:=o3.fst
 exact hk r h3 k' l3 hB.rd ⟨K,tm,K2,tm2,rfl,mk.mono l3,td,fun hn=>⟨(h2 hn).1,(h2 hn).2.1.mono l3,(h2 hn).2.2⟩,o4⟩
def tickP (c:PCfg) (t:zcf):zcf:=(tickS c cpuD (flC c) (msOf t)).list c
def injP (c:PCfg) (t:zcf) (p v:Int):zcf:=(zjx c (msOf t) p v).1.list c
theorem Pair.tick1 {Q:Int->Hp->Prop} (q:Pair h k c t1 t2 pm n) (mc:CfgM c) (g:Good c (flC c) (msOf t1) No No t1.tick) (ht:t1.tick<4611686018427387904) (hk:∀k',Pair h k' c (tickP c t1) t2 pm n->Q (zgf c t1.tick:Int) k'):zdg prog (some pm) Q k:=by
 obtain ⟨K,tm,h1,rfl,mk,td,l1,o1,put⟩:=q.one
 exact zda2 zdd2 mk mc o1 g ht td fun tm' k' o' td'=>hk k' (put _ _ _ o' td')
theorem Pair.inj1 {p v:Int} {Q:Int->Hp->Prop} (q:Pair h k c t1 t2 pm n) (mc:CfgM c) (g:Good c (flC c) (msOf t1) No No t1.tick) (hk:∀k',Pair h k' c (injP c t1 p v) t2 pm n->Q (zjx c (msOf t1) p v).2 k'):zcu prog (some pm) p v Q k:=by
 obtain ⟨K,tm,h1,rfl,mk,td,l1,o1,put⟩:=q.one
 exact zvu1 mk mc o1 (g.sane mc) fun k' o'=>hk k' (put _ tm _ o' (td.keep zak2))
end
section
variable {c:PCfg} {s:MS} {t:zcf}
structure GT (c:PCfg) (t:zcf):Prop where
 good:Good c (flC c) (msOf t) No No t.tick
 parts:t.parts.length=nP c
 procs:t.procs.length=nQ c
theorem GT.of (m:CfgM c) (g:Good c (flC c) s No No s.tick) (ht:s.tick<=4611686018427387904):GT c (s.list c):=
 ⟨zaa2 m (Good.may m g ht) fun x hx=>by
  obtain ⟨p,hp,rfl⟩:=List.mem_map.1 hx
  exact (g.proc p (List.mem_range.1 hp)).regs,zwc1,zwd1⟩
theorem zal2 {D:Int->Int->Int->Int} (m:CfgM c) {fl:Nat->Nat->Bool} (g:Good c fl s No No s.tick):(tickS c D fl s).tick=s.tick+1:=by
 have g1:=(g.widen (T':=s.tick+1) (by omega)).due (i:=zgf c s.tick)
 obtain ⟨_,e2⟩:=Good.turns (D:=D) m (m.ownerI_lt (t:=s.tick)) c.fuel.toNat g1 rfl
 have e2:(zha c D fl (zgf c s.tick) c.fuel.toNat (dueS c s (zgf c s.tick))).tick=s.tick:=e2
 show (zha c D fl (zgf c s.tick) c.fuel.toNat (dueS c s (zgf c s.tick))).tick+1=_
 rw [e2]
theorem GT.tick (m:CfgM c) (g:GT c t) (ht:t.tick<4611686018427387904):GT c (tickP c t)/\(tickP c t).tick=t.tick+1:=by
 have e:(tickS c cpuD (flC c) (msOf t)).tick=t.tick+1:=zal2 m g.good
 exact ⟨GT.of m (g.good.tick_ m) (by omega),e⟩
theorem GT.inj (m:CfgM c) (g:GT c t) (ht:t.tick<=4611686018427387904) {p v:Int}:GT c (injP c t p v)/\(injP c t p v).tick=t.tick:=by
 have e:(zjx c (msOf t) p v).1.tick=t.tick:=zqv1
 exact ⟨GT.of m (by rw [e];exact g.good.inject) (by omega),e⟩
theorem GT.le (m:CfgM c) (g:GT c t):StLe t:=zfv2 (g.good.sane m) m g.parts g.procs
theorem GT.may (m:CfgM c) (g:GT c t) (ht:t.tick<=4611686018427387904):MayP c t:=by
 have:=Good.may m g.good ht
 rw [zgd1 g.parts g.procs] at this
 exact (zdf2 m).2 this
theorem zdg2 (m:CfgM c):GT c ((zrt c).list c)/\((zrt c).list c).tick=0:=⟨GT.of m (Good.first m) (by show (0:Int)<=_;decide),rfl⟩
end
section
variable {h k:Hp}
theorem ztr1 {α:Type} {b:Bool} {A:(α->Hp->Prop)->Hp->Prop} {K:α->Hp->Prop} (hb:b=true) (hk:A K h):EffC (some b) A K h:=⟨fun _=>hk,fun e=>(by rw [hb] at e;cases e)⟩
variable {c:PCfg} {t1 t2 t:zcf} {pm:Addr} {n:Option Addr}
end
def exC :PCfg:=⟨[0,1],[0,1],2,1,1,4,[⟨0,[⟨1,0,0,0,1⟩,⟨1,1,0,0,5⟩,⟨24,2,0,1,0⟩,⟨0,0,0,0,0⟩]⟩,⟨1,[⟨25,3,4,0,0⟩,⟨31,3,0,0,0⟩,⟨0,0,0,0,0⟩]⟩]⟩
def exT :Nat->zcf
 | 0=>(zrt exC).list exC
 | n+1=>tickP exC (exT n)
theorem zts1 :(cfgE exC).1=0:=by kernel_rfl
theorem zfw2 :((exT 4).parts[1]?).map (·.log)=some [⟨3,1,5⟩]:=by kernel_rfl
theorem zam2 :((exT 4).procs[0]?).map (·.state)=some 5:=by kernel_rfl
theorem zdv2 :∀n:Nat,n<=1000->GT exC (exT n)/\(exT n).tick=n
 | 0,_=>zdg2 (zge1 zts1)
 | n+1,hn=>by
  obtain ⟨g,e⟩:=zdv2 n (by omega)
  obtain ⟨g',e'⟩:=g.tick (zge1 zts1) (by omega)
  exact ⟨g',by show (tickP exC (exT n)).tick=_;rw [e',e];omega⟩
section
variable {h k:Hp}
theorem zoj1 {Q:S_api_Config->Hp->Prop} (hq:∀r k',k<=k'->CfgAt k' r exC->Q r k'):zee prog Q k:=by
 unfold zee
 refine newSl (enc:=fun x=>zac (sh_api_Ins.enc x)) (sz:=5) (xs:=[⟨1,0,0,0,1⟩,⟨1,1,0,0,5⟩,⟨24,2,0,1,0⟩,⟨0,0,0,0,0⟩]) rfl (fun _=>rfl) fun a1 k1 l1 o1=> ?_
 refine newSl (enc:=fun x=>zac (sh_api_Ins.enc x)) (sz:=5) (xs:=[⟨25,3,4,0,0⟩,⟨31,3,0,0,0⟩,⟨0,0,0,0,0⟩]) rfl (fun _=>rfl) fun a2 k2 l2 o2=> ?_
 refine newSl (enc:=fun x:Int=>zac ((shInt .u64).enc x)) (sz:=1) (xs:=[0,1]) rfl (fun _=>rfl) fun a3 k3 l3 o3=> ?_
 refine newSl (enc:=fun x:Int=>zac ((shInt .i64).enc x)) (sz:=1) (xs:=[0,1]) rfl (fun _=>rfl) fun a4 k4 l4 o4=> ?_
 refine newSl (enc:=fun x=>zac (sh_api_Proc.enc x)) (sz:=2) (xs:=[⟨0,⟨some a1,4,4⟩⟩,⟨1,⟨some a2,3,3⟩⟩]) rfl (fun _=>rfl) fun a5 k5 l5 o5=> ?_
 have r1:=Rw.mono (Hp.le_trans l2 (Hp.le_trans l3 (Hp.le_trans l4 l5))) (o1.srw fun _=>rfl)
 have r2:=Rw.mono (Hp.le_trans l3 (Hp.le_trans l4 l5)) (o2.srw fun _=>rfl)
 exact hq _ k5 (Hp.le_trans l1 (Hp.le_trans l2 (Hp.le_trans l3 (Hp.le_trans l4 l5)))) ⟨Rw.mono (Hp.le_trans l4 l5) (o3.srw fun _=>rfl),Rw.mono l5 (o4.srw fun _=>rfl),rfl,rfl,rfl,rfl,_,o5.srw fun _=>rfl,⟨rfl,_,r1,rfl⟩,⟨rfl,_,r2,rfl⟩,trivial⟩
theorem zgt2 :∀l∈exC.labels,InU l:=fun l hl=>by
 simp [exC] at hl
 rcases hl with rfl | rfl<;>exact ⟨by decide,by decide⟩
theorem zwe1 {Q:Bool->Hp->Prop} (hq:∀h',k<=h'->Q true h'):zfn prog Q k:=by
 unfold zfn
 have mc:=zge1 zts1
 refine znc (zoj1 fun r k1 l1 cr=> ?_)
 refine zch1 (zft2 cr zgt2 (fun _ _ he=>absurd zts1 he) fun pm k2 _ l2 st=>letW ?_)
 rw [if_neg (by simp)]
 obtain ⟨hb0,lb0,q0⟩:=st.pair
 refine LoopW2.intro (fun (ow:Int) (i:Int) k'=>0<=i/\i<=4/\ow=([0,0,1,2,5]:List Int).getD i.toNat 0/\Pair hb0 k' exC (exT i.toNat) (exT i.toNat) pm none) (fun _ i _=>(4-i).toNat) ⟨by omega,by omega,rfl,q0⟩ ?_
 rintro ow i k3 ⟨i0,i1,rfl,q⟩
 obtain ⟨g,et⟩:=zdv2 i.toNat (by omega)
 by_cases h:i<4
 ·rw [if_pos (decide_eq_true h)]
  refine zom (q.tick1 mc g.good (by omega) fun k4 q1=> ?_)
  rw [et]
  have:i=0\/i=1\/i=2\/i=3:=by omega
  rcases this with rfl | rfl | rfl | rfl<;>exact ⟨⟨by decide,by decide,rfl,q1.alone⟩,by decide⟩
 ·rw [if_neg (fun e=>h (of_decide_eq_true e))]
  obtain rfl:i=4:=by omega
  refine zno (q.state1 mc g.good g.parts g.procs fun r3 hb1 k4 lb1 hr q1=> ?_)
  obtain ⟨ps,hps,hpa⟩:=hr.parts
  obtain ⟨qs,hqs,hqa⟩:=hr.procs
  have e1:=hpa.len
  have e2:=hqa.len
  have e3:r3.Parts.len=ps.length:=hps.1
  have e4:r3.Procs.len=qs.length:=hqs.1
  have e5:nP exC=2:=rfl
  have e6:nQ exC=2:=rfl
  have e7:=g.parts
  have e8:=g.procs
  have e9:=hr.tick
  have lk:=q1.le
  refine letW (letW (letW ?_))
  rw [show (((([0,0,1,2,5]:List Int).getD (4:Int).toNat 0 !=5 || r3.Tick !=4) || ((r3.Parts.len:Nat):Int) !=2) || ((r3.Procs.len:Nat):Int) !=2)=false by
   rw [e9,et,e3,e4,e1,e2,e7,e8];rfl]
  have hlogp:∀x,ps[1]?=some x->∃es,EntS k4 x.Log es/\es.map zni=[⟨3,1,5⟩]:=fun x hx=>by
   obtain ⟨p,hp,ha⟩:=hpa.get hx
   obtain ⟨es,h1,h2⟩:=ha.log
   have:=zfw2
   rw [show (exT 4).parts[1]?=some p from hp] at this
   have h3:p.log=[⟨3,1,5⟩]:=Option.some.inj this
   exact ⟨es,Rw.mono lk h1,by rw [h2,h3]⟩
  refine Rw.fldC (Rw.mono lk hps) (fun _=>rfl) (by decide) (sh:=shSl) (fun q:S_api_Part=>q.Log) (j:=1) (fun _=>rfl) ⟨none,0,0⟩ (fun _=>by constructor<;>omega) fun y hy=> ?_
  obtain ⟨x,hx,rfl⟩:=hy rfl
  obtain ⟨es,hes,hem⟩:=hlogp x hx
  have hel:es.length=1:=by have:=congrArg List.length hem;rw [List.length_map] at this;exact this
  have hxl:x.Log.len=es.length:=hes.1
  refine letW ?_
  rw [show (false || ((x.Log.len:Nat):Int) !=1)=false by rw [hxl,hel];rfl,if_neg (by decide)]
  refine Rw.fld (Rw.mono lk hps) (fun _=>rfl) (by decide) (sh:=shSl) (fun q:S_api_Part=>q.Log) (j:=1) (fun _=>rfl) (by omega) (by omega) fun x' hx'=> ?_
  have hx':ps[1]?=some x':=hx'
  rw [show ps[1]?=some x from hx] at hx'
  cases hx'
  refine Rs.get (sh:=sh_api_Entry) hes (fun _=>rfl) (by decide) (by omega) (by omega) fun (z:S_api_Entry) hz=> ?_
  have hzz:zni z=⟨3,1,5⟩:=by
   have hz':es[0]?=some z:=hz
   have:(es.map zni)[0]?=([⟨3,1,5⟩]:List zvk)[0]?:=by rw [hem]
   rw [List.getElem?_map,hz'] at this
   exact Option.some.inj this
  have hz3:z=⟨3,1,5⟩:=zrc1 (hzz.trans rfl)
  subst hz3
  refine ⟨true,znk1 [(⟨ "Tick",2,0,false, "", "",0⟩,.i64,3,3),(⟨ "Proc",3,1,false, "", "",8⟩,.i64,1,1),(⟨ "Value",2,2,false, "", "",16⟩,.i64,5,5)]
   (tb_ok.und 68 ty68 rfl) (by kernel_rfl) (by kernel_rfl) (fun q hq=> ?_),?_⟩
  ·simp only [List.mem_cons,List.not_mem_nil,or_false] at hq
   rcases hq with rfl | rfl | rfl
   ·exact ⟨by simp,tb_ok.und 2 ty2 rfl,rfl,rfl⟩
   ·exact ⟨by simp,tb_ok.und 3 ty3 rfl,rfl,rfl⟩
   ·exact ⟨by simp,tb_ok.und 2 ty2 rfl,rfl,rfl⟩
  ·refine Rw.fldC (Rw.mono lk hqs) (fun _=>rfl) (by decide) (sh:=shInt .i64) (fun q:S_api_Process=>q.State) (j:=0) (fun _=>rfl) (0:Int) (fun _=>by constructor<;>omega) fun y hy=> ?_
   obtain ⟨w,hw,rfl⟩:=hy rfl
   have hst:w.State=5:=by
    obtain ⟨p,hp,ha⟩:=hqa.get hw
    have:=zam2
    rw [show (exT 4).procs[0]?=some p from hp] at this
    rw [ha.state]
    exact Option.some.inj this
   refine letW ?_
   rw [hst]
   refine ztr1 rfl (znb (q1.inj1 mc g.good fun k5 q2=>letW ?_))
   have e17:(zjx exC (msOf (exT 4)) 5 1).2=17:=rfl
   rw [show (Int.toNat 4)=4 from rfl,e17]
   exact hq k5 (Hp.le_trans l1 (Hp.le_trans lb0 (Hp.le_trans lb1 q2.le)))
theorem machineNames_ok {Q:Bool->Hp->Prop} (hq:∀h',k<=h'->Q true h'):zcx prog Q k:=by
 unfold zcx
 exact ztr1 rfl (zol (zwe1 fun h1 l1=>letW (hq h1 l1)))
end
end Lf
