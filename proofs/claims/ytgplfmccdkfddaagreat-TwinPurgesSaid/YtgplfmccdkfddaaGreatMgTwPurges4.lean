/-
  Part 5 of the texts that the claim leans on.
-/
import Derived.RangeFuncFrom
import Derived.RangeFuncBound
import Derived.RangeFuncCalls
import Derived.RangeFuncLeaves
import Derived.Shelf.Abstract
import Derived.Shelf.RegionOpen
import Derived.WalkKit
import Derived.OwnWalkIn
import Derived.TacticsInMore
import Derived.LoopNIn
import Derived.LoopIn
import Derived.Test.YtgplfmccdkfddaaGreatProg
import Derived.ChangeKeysEq
import Derived.ProofKit
import Derived.SizedLaws
import Derived.OpenShut
import Derived.Laws.IdiomStrings
import Derived.Test.YtgplfmccdkfddaaGreatMgTwPurges3
set_option maxRecDepth 100000
namespace Lf
open Go Go.Proofs Tryz
section
variable {h0 h1 k:Hp} {K:MK} {pm:Addr} {s:MS} {d:Nat->Nat->Int}
theorem TY {p i:Nat} {rest:Hp->Prop} (m:dh h0 K) (D:cg K.c) (o:Has h0 (aD K pm s d) k) (sa:∀q,q<nQ K.c->pX K.c (s.proc q)) (hp:p<nQ K.c) (O:i<nP K.c)
  (P:∀j,Has h0 (aD K pm (lQ p s (dK K.c i)) d) j->rest j):
  aA (α1:=Int) (λH u f=>
 (if (decide (u<(((K.own i).len:Nat):Int)))=true then
 ((bB (K.own i).base (K.own i).len u)/\aN none (ab .i64) f (sat (K.own i).base 1 u) λF=>
 ag none (some pm) λZ=>
 aN none ak f (Addr.add Z 11) λy=>
 ((bB y.base y.len F)/\aN none aj f (sat y.base 1 F) λx6=>
 ag none x6 λp7=>
 aN none aj f (Addr.add p7 14) λx7=>
 ag none (some (K.p p)) λp8=>
 aN none (ab .i64) f (Addr.add p8 0) λx8=>
 aa prog Uy [(.pointer x7),(.int .i64 x8)] aQ (λr M=>
 H (yw (u+(1:Int))) M) f))
 else rest f)) (0:Int) k:=by
 have r:=m.own i O;have R:=r.1;rw [List.length_map] at R;have a8:(dK K.c i).length<=1000:=by have h1:(dK K.c i).length<=(List.range (nQ K.c)).length:=List.length_filter_le ..;rw [List.length_range] at h1;have:=D.procs;omega
 refine aA.intro (λ(t:Int) j=>0<=t/\t<=((dK K.c i).length:Int)/\Has h0 (aD K pm (lQ p s ((dK K.c i).take t.toNat)) d) j) (λt _=>((dK K.c i).length-t).toNat) ⟨by omega,by omega,by
  have e:lQ p s ((dK K.c i).take (0:Int).toNat)=s:=by unfold lQ;simp
  rw [e];exact o⟩ ?_
 rintro t j ⟨t0,t1,n⟩;by_cases h:t<((dK K.c i).length:Int)
 ·rw [if_pos (decide_eq_true (by omega))];refine Rs.get (sh:=ab .i64) (r.mono n.le) (λ_=>rfl) (by omega) t0 (by grind) λ(g:Int) a9=> ?_;obtain ⟨q,w,rfl⟩:∃q:Nat,(dK K.c i)[t.toNat]? =some q/\(q:Int)=g:=by grind
  have S:=List.mem_of_getElem? w;have v:=(fD.1 S).1;have C:q∉(dK K.c i).take t.toNat:=by
   intro b0;have b3:=KA (c:=K.c) (i:=i);obtain ⟨b2,N⟩:=List.getElem?_eq_some_iff.1 w;have b5:(dK K.c i)=(dK K.c i).take t.toNat++q::(dK K.c i).drop (t.toNat+1):=by rw [<-N,List.getElem_cons_drop,List.take_append_drop]
   grind
  obtain ⟨J,L⟩:=m.ptr n v;refine aP (n.eB.ld (shf:=ak) K.x.procs rfl ⟨J,some (K.p q),L,?_⟩);obtain ⟨h2,z,a,l2,T,Y,E,put⟩:=n.nl v;have eq:z.post=some a:=T.2.2.2.2.2.2;refine aP (Y.ld (shf:=aj) z.post rfl ?_);obtain ⟨f,G,ap,l3,U,op,_⟩:=n.dk hp;refine aP (op.ld (shf:=ab .i64) G.dp rfl ?_);have I:G.dp=(p:Int):=U.1;rw [eq,I];have B:(lQ p s ((dK K.c i).take t.toNat)).proc q=s.proc q:=if_neg C;rw [B] at E put;have sq:=sa q v;have b4:=D.parts;have b1:=sq.len;refine Oy (TK E ⟨by omega,λl Q=>(sq.dJ l Q).waiters⟩ λb V W=> ?_);have X:=put _ _ _ W;rw [wrap64 (by omega) (by omega)];refine ⟨⟨by omega,by omega,?_⟩,by omega⟩;have e:(t+1).toNat=t.toNat+1:=by omega
  have A:=Oj (p:=p) (s:=s) C;rw [B] at A;rw [e,List.take_add_one,w];show Has h0 (aD K pm (lQ p s ((dK K.c i).take t.toNat++ [q])) d) V;rw [<-A];exact X
 ·rw [if_neg (λe=>h (by have:=of_decide_eq_true e;omega))];refine P j ?_;have e:t.toNat=(dK K.c i).length:=by omega
  grind
theorem IG {q:Nat}:∀ {l:List Int} {s:MS},((l.foldl gu s).proc q).af=(s.proc q).af
 | [],s=>rfl
 | a::l,s=>by
  rw [List.foldl_cons,IG];unfold gu;split
  ·unfold oK;by_cases e:q=a.toNat
   ·subst e;rw [fH];rfl
   ·rw [iu e]
  ·rfl
theorem H9 {a:Type} {f:a->Bool}:∀ {l:List a},(gX f l).length<=l.length
 | []=>Nat.le_refl _
 | b::l=>by have:=H9 (f:=f) (l:=l);unfold gX;grind
def qW (y:ai):ai:={y with timer:=0,cn:=0}
def tD (s:MS):MS:=⟨s.tick,s.part,λq=>qW (s.proc q)⟩
theorem EP :aD K pm s d=aD K pm (tD s) d:=rfl
theorem EU {p:Nat} {y:ai}:tD (s.aG p y)=(tD s).aG p (qW y):=by unfold tD MS.aG;dsimp only;rw [Uq]
theorem On {c:aV} {p:Nat} {v:Int}:tD (bQ c s p v)=bQ c (tD s) p v:=by unfold bQ;rw [EU];rfl
theorem BY {c:aV} {v:Int}:∀ {l:List ly} {s:MS},tD (l.foldl (λs w=>bQ c s w.proc.toNat v) s)=l.foldl (λs w=>bQ c s w.proc.toNat v) (tD s)
 | [],s=>rfl
 | a::l,s=>by rw [List.foldl_cons,BY,On,List.foldl_cons]
theorem TZ {p:Nat} (o:Has h0 (aD K pm (((s.proc p).af.flatMap (·.waiters)).foldl (λs w=>bQ K.c s w.proc.toNat 2) (iU s p)) d) k):Has h0 (aD K pm (qc K.c (gR s p) p) d) k:=by
 have a:((gR s p).proc p).af=(s.proc p).af:=by unfold gR;rw [fH]
 have b:tD (iU (gR s p) p)=tD (iU s p):=by unfold iU gR;rw [fH,AL,EU,EU];rfl
 unfold qc;rw [a,EP,BY,b,<-BY,<-EP];exact o
def qd (d:Nat->Nat->Int) (i p:Nat):Nat->Nat->Int:=cm d i (cm (cm (d i) (2*p) 0) (2*p+1) 0)
theorem HI {p:Nat} {st:Int} {Q:Hp->Prop} (m:dh h0 K) (y:cg K.c) (o:Has h0 (aD K pm s d) k) (j:jr K.c s) (hp:p<nQ K.c)
  (M:∀t,Has h0 (aD K pm (kI K.c s p st) (qd d (ax K.c p) p)) t->Q t):Q0 prog (some pm) (some (K.p p)) st Q k:=by
 unfold Q0;rw [yf] at M;have r:ax K.c p<nP K.c:=y.eR;have i4:=y.procs;have i2:=y.parts;obtain ⟨h1,z,a,l1,T,oz,put⟩:=o.dk hp;refine aP (o.eB.ld (shf:=ak) K.x.parts rfl ?_);refine aP (oz.ld (shf:=ab .i64) z.part rfl ?_);have ep:z.part=(ax K.c p:Int):=T.2.1;rw [ep];obtain ⟨g1,g2⟩:=m.tg o r;refine ⟨g1,some (K.q (ax K.c p)),g2,?_⟩;refine aP (oz.st (nx z st) (by show 3+1<=15;omega) rfl λk1 o1=> ?_);refine aP (o1.st (tJ (nx z st) false) (by show 13+1<=15;omega) rfl λk2 o2=> ?_);have B:=put _ _ _ ((T.state st).bF false) rfl rfl o2;have B:Has h0 (aD K pm (fL s p st) d) k2:=B;obtain ⟨h2,x,lp,wp,l2,hx,ox,_⟩:=B.sx r;refine aP (ox.ld (shf:=ak) x.procs rfl ?_);have ex:x.procs=K.own (ax K.c p):=hx.1;rw [ex];have b3:∀q,q<nQ K.c->pX K.c ((fL s p st).proc q):=λq f=>by
  unfold fL;by_cases e:q=p
  ·subst e;rw [fH];have:=j.proc q f;exact ⟨this.pc,this.len,this.cur,this.dJ⟩
  ·rw [iu e];exact j.proc q f
 have c5:∀q,((dV K.c s p st).proc q).pc=(s.proc q).pc:=λq=>by
  have h1:((fL s p st).proc q).pc=(s.proc q).pc:=by
   unfold fL;by_cases e:q=p
   ·subst e;rw [fH]
   ·rw [iu e]
  show (if q∈dK K.c (ax K.c p) then mh p ((fL s p st).proc q) else (fL s p st).proc q).pc=_;split<;>exact h1
 refine TY m y B b3 hp r λk3 C=> ?_;have C:Has h0 (aD K pm (dV K.c s p st) d) k3:=C;obtain ⟨I,x4,d9,j2,l4,d2,f4,ol,b0⟩:=C.qt r;have el:x4.an=some d9:=d2.2.2.2.2.1;obtain ⟨h5,z5,a5,l5,d7,f7,_⟩:=C.dk hp;refine aP (f4.ld (shf:=aj) x4.an rfl ?_);refine aP (f7.ld (shf:=ab .i64) z5.dp rfl ?_);have ei:z5.dp=(p:Int):=d7.1;rw [el,ei];have v:=j.part _ r;have c1:(dV K.c s p st).part=s.part:=rfl;rw [c1] at ol b0;refine Oz (VT ol ⟨by have:=v.kf.1;omega,v.kf.2⟩ v.gJ (by omega) λsl k4 gs c4 o5=> ?_);have o6:Has h0 ((aD K pm (pB K.c (dV K.c s p st) p) d).star (dD 2 eG sl gs)) k4:=o5.carry λt F=>b0 _ _ t F;obtain ⟨J,W,o7,hr⟩:=o6.aside (λ_=>rfl);have X:=m.mono W;have L:=HF (p:=(p:Int)) (os:=(s.part (ax K.c p)).az) (qs:=(s.part (ax K.c p)).al.map (eJ p));have i0:gs.length<=8:=by have:=L.2;rw [<-c4,List.length_map,List.length_map] at this;have:=v.kf.1;omega
 have c8:∀g∈gs,0<=g.da->g.da<(nQ K.c:Int):=by
  intro g hg h0;have:g.da∈(iA (p:Int) (s.part (ax K.c p)).az ((s.part (ax K.c p)).al.map (eJ p))).2.2:=by grind
  rcases L.1 _ this with h | ⟨q,f,hm⟩
  ·omega
  ·obtain ⟨q',c6,rfl⟩:=List.mem_map.1 f;exact ((v.nd q' c6).2 _ (I6 hm)).2
 have S:∀q,((pB K.c (dV K.c s p st) p).proc q).pc=(s.proc q).pc:=c5;refine TX (Q:=Q) X o7 hr (by omega) c8 (λq f=> ?_) λk5 G=> ?_
 ·rw [S];have:=(j.proc q f).pc;omega
 have H:(gs.map (·.da)).foldl gu (pB K.c (dV K.c s p st) p)=iT K.c (dV K.c s p st) p:=by show _=(iA (p:Int) ((dV K.c s p st).part (ax K.c p)).az (((dV K.c s p st).part (ax K.c p)).al.map (eJ p))).2.2.foldl gu _;grind
 rw [H] at G;have i3:∀q,q<nQ K.c->0<=((iT K.c (dV K.c s p st) p).proc q).pc/\((iT K.c (dV K.c s p st) p).proc q).pc<=2000:=λq f=>by have:=DL (gs.map (·.da)) (pB K.c (dV K.c s p st) p) q;rw [H,S,List.length_map] at this;have:=(j.proc q f).pc;omega
 have R:∀q,((iT K.c (dV K.c s p st) p).proc q).af=((dV K.c s p st).proc q).af:=λq=>by unfold iT;rw [IG];rfl
 generalize i5:iT K.c (dV K.c s p st) p=b at*;obtain ⟨h7,x7,i9,g4,l7,d3,Z,ow,g0⟩:=G.iH r;have c2:x7.dI=some g4:=d3.2.2.2.2.2;obtain ⟨h8,z8,a8,l8,d8,f8,_⟩:=G.dk hp;refine aP (Z.ld (shf:=aj) x7.dI rfl ?_);refine aP (f8.ld (shf:=ab .i64) z8.dp rfl ?_);have b8:z8.dp=(p:Int):=d8.1;rw [b8];refine HE (xZ (by omega) ?_);refine ⟨⟨Z.eA (n:=1) rfl,trivial⟩,?_⟩;rw [c2];refine GQ (C8 ow (by omega) λb1 k6 o9=> ?_);have Y:=g0 _ _ o9;obtain ⟨h9,x9,j0,g5,l9,d4,a9,f0,g3⟩:=Y.iH r;have c3:x9.dI=some g5:=d4.2.2.2.2.2;obtain ⟨g7,b4,g6,i6,d5,f5,_⟩:=Y.dk hp;refine aP (a9.ld (shf:=aj) x9.dI rfl ?_);refine aP (f5.ld (shf:=ab .i64) b4.dp rfl ?_);have b7:b4.dp=(p:Int):=d5.1;rw [b7];refine HH (ya (by omega) ?_);refine ⟨⟨a9.eA (n:=1) rfl,trivial⟩,?_⟩;rw [c3];refine GQ (C8 f0 (by omega) λb2 k7 e0=> ?_);have A:=g3 _ _ e0;rw [jA,Ks] at A;have A:Has J (aD K pm b (qd d (ax K.c p) p)) k7:=A;obtain ⟨g8,b5,b6,i7,d6,f6,e9,f9⟩:=A.nl hp;have c0:b5.post=some b6:=d6.2.2.2.2.2.2;refine aP (f6.ld (shf:=aj) b5.post rfl ?_);rw [c0];have j1:=b3 p hp;have P:∀l∈(b.proc p).af,∃u∈(s.proc p).af,l.waiters.length<=u.waiters.length/\∀w∈l.waiters,w∈u.waiters:=by
  intro l i;rw [R] at i;have D:((fL s p st).proc p).af=(s.proc p).af:=by unfold fL;rw [fH]
  have N:l∈(if p∈dK K.c (ax K.c p) then mh p ((fL s p st).proc p) else (fL s p st).proc p).af:=i;rw [if_pos (fD.2 ⟨hp,rfl⟩)] at N;obtain ⟨l0,O,rfl⟩:=List.mem_map.1 N;rw [D] at O;exact ⟨l0,O,H9,λw E=>I6 E⟩
 have i1:(b.proc p).af.length=nP K.c+1:=by
  rw [R];have D:((fL s p st).proc p).af=(s.proc p).af:=by unfold fL;rw [fH]
  show (if p∈dK K.c (ax K.c p) then mh p ((fL s p st).proc p) else (fL s p st).proc p).af.length=_;rw [if_pos (fD.2 ⟨hp,rfl⟩)];show (List.map _ _).length=_;rw [List.length_map,D];exact (j.proc p hp).len
 have d0:∀l∈(b.proc p).af,l.waiters.length<=100:=λl i=>by obtain ⟨u,h1,h2,_⟩:=P l i;have:=((j.proc p hp).dJ u h1).waiters;omega
 refine Qk (X7 e9 ⟨by omega,d0⟩ λsw k8 e2=> ?_);have e3:Has J ((aD K pm (iU b p) (qd d (ax K.c p) p)).star (dD 2 eW sw ((b.proc p).af.flatMap (·.waiters)))) k8:=e2.carry λt F=>f9 _ _ t F;obtain ⟨g9,V,e4,c7⟩:=e3.aside (λ_=>rfl);have h4:((b.proc p).af.flatMap (·.waiters)).length<=900:=by
  have key:∀(m:List bq),(∀l∈m,l.waiters.length<=100)->(m.flatMap (·.waiters)).length<=m.length*100:=λm=>by
   induction m with
   | nil=>intro _;simp
   | cons a m ih=>intro h;have:=ih λl i=>h l (List.mem_cons_of_mem _ i);have:=h a (List.mem_cons_self ..);simp only [List.flatMap_cons,List.length_append,List.length_cons];omega
  grind
 refine WE (X.mono V) e4 c7 (by omega) (λw E=> ?_) (λq f=> ?_) λU e5=>M U ?_
 ·obtain ⟨l,i,d1⟩:=List.mem_flatMap.1 E;obtain ⟨u,h1,_,I⟩:=P l i;exact ((j.proc p hp).dJ u h1).kj w (I w d1)
 ·have e6:((iU b p).proc q).pc=(b.proc q).pc:=by
   unfold iU;by_cases e:q=p
   ·subst e;rw [fH]
   ·rw [iu e]
  grind
 · -- timers are in the dI alone
  have e7:Has h0 (aD K pm (((b.proc p).af.flatMap (·.waiters)).foldl (λs w=>bQ K.c s w.proc.toNat 2) (iU b p)) (qd d (ax K.c p) p)) U:=e5.mono (Hp.le_trans W V);exact TZ e7
end
theorem Ri {b:Type} {l:List b} {n:Nat} {f:b->b} {a:b} (h:l[n]? =some a):l.modify n f=l.set n (f a):=by refine List.ext_getElem? λj=> ?_;grind
theorem IW {a b:Int}:iF a b=pG a b:=by unfold iF pG;omega
theorem Yo {a b:Int}:oY a b=uH a b:=by unfold oY uH;omega
section
variable {h0 h1 k:Hp} {K:MK} {pm:Addr} {s:MS} {d:Nat->Nat->Int}
def uW (d:Nat->Nat->Int) (i p:Nat) (t v:Int):Nat->Nat->Int:=cm d i (cm (d i) (2*p) (if 0<v then t+pG v 1099511627776 else 0))
theorem T0 {p:Nat} {v:Int} {Q:Hp->Prop} (m:dh h0 K) (w:cg K.c) (o:Has h0 (aD K pm s d) k) (hp:p<nQ K.c) (ht:0<=s.tick/\s.tick<=4611686018427387904)
  (j:∀u,Has h0 (aD K pm (s.aG p {s.proc p with bF:=false}) (uW d (ax K.c p) p s.tick v)) u->Q u):
 ag none (some (K.p p)) λp8=>
 cD k (Addr.add p8 13) [(.bool false)] (λi=>
 ag none (some (K.q (ax K.c p))) λE=>
 aN none aj i (Addr.add E 6) λe=>
 ag none (some (K.p p)) λZ=>
 aN none (ab .i64) i (Addr.add Z 0) λx8=>
 aa prog vY [(.int .i64 x8)] (ab .i64) (λr2 l=>
 (((bp l (Addr.add E 6) [(.pointer e)])/\True)/\aa prog Ca [(.pointer e),(.int .i64 r2)] aQ (λr3 b=>
 (if (decide (v>(0:Int)))=true then
 ag none (some (K.q (ax K.c p))) λC=>
 aN none aj b (Addr.add C 6) λf=>
 ag none (some (K.p p)) λa8=>
 aN none (ab .i64) b (Addr.add a8 0) λb4=>
 ag none (some pm) λD=>
 aN none (ab .i64) b (Addr.add D 9) λF=>
 aa prog vY [(.int .i64 b4)] (ab .i64) (λr4 g=>
 (((bp g (Addr.add C 6) [(.pointer f)])/\((bp g (Addr.add D 9) [(.int .i64 F)])/\(True/\True)))/\aa prog vW [(.pointer f),(.int .i64 r4),(.int .i64 (yw (F+(iF v (1099511627776:Int)))))] (ab .i64) (λr5 M=>
 Q M) g)) b
 else
 Q b)) l)) i):=by
  have r:ax K.c p<nP K.c:=w.eR;have b8:=w.procs;obtain ⟨h1,z,a,l1,t,X,put⟩:=o.dk hp;refine aP (X.st (tJ z false) (by show 13+1<=15;omega) rfl λk2 y=> ?_);have T:=put _ _ _ (t.bF false) rfl rfl y;obtain ⟨g,e,c1,b2,l7,N,A,V,a9⟩:=T.iH r;have J:e.dI=some b2:=N.2.2.2.2.2;refine aP (A.ld (shf:=aj) e.dI rfl ?_);refine aP (y.ld (shf:=ab .i64) z.dp rfl ?_);have I:z.dp=(p:Int):=t.1;rw [I];refine HE (xZ (by omega) ?_);refine ⟨⟨A.eA (n:=1) rfl,trivial⟩,?_⟩;rw [J];refine GQ (C8 V (by omega) λb1 k6 U=> ?_);have h:=a9 _ _ U;unfold uW at j;by_cases hv:0<v
  ·rw [if_pos (decide_eq_true hv)];rw [if_pos hv] at j;obtain ⟨h9,f,c2,b3,l9,O,B,W,b0⟩:=h.iH r;have L:f.dI=some b3:=O.2.2.2.2.2;obtain ⟨b6,G,b5,c0,P,Y,_⟩:=h.dk hp;refine aP (B.ld (shf:=aj) f.dI rfl ?_);refine aP (Y.ld (shf:=ab .i64) G.dp rfl ?_);have H:G.dp=(p:Int):=P.1;rw [H];refine aP (h.eB.ld (shf:=ab .i64) s.tick rfl ?_);refine HE (xZ (by omega) ?_);refine ⟨⟨B.eA (n:=1) rfl,h.eB.eA (n:=1) rfl,trivial,trivial⟩,?_⟩;have b7:0<pG v 1099511627776/\pG v 1099511627776<=1099511627776:=by unfold pG;split<;>omega
   rw [L,IW,wrap64 (by omega) (by omega)];refine SK (Ef W (by omega) (by omega) (by omega) λR S=>j R ?_);have x:=b0 _ _ S;rw [jA,Ks,Ks] at x;exact x
  grind
theorem T1 {p:Nat} {v:Int} {Q:Hp->Prop} (m:dh h0 K) (g:cg K.c) (o:Has h0 (aD K pm s d) k) (hp:p<nQ K.c) (X:0<=s.tick/\s.tick<=4611686018427387904)
  (A:∀f,Has h0 (aD K pm (s.aG p {s.proc p with state:=4}) (cm d (ax K.c p) (cm (d (ax K.c p)) (2*p+1) (s.tick+pG (uH v 1) 1099511627776)))) f->Q f):
 ag none (some (K.q (ax K.c p))) λj=>
 aN none aj k (Addr.add j 6) λl=>
 ag none (some (K.p p)) λN=>
 aN none (ab .i64) k (Addr.add N 0) λR=>
 ag none (some pm) λi=>
 aN none (ab .i64) k (Addr.add i 9) λb=>
 aa prog xc [(.int .i64 R)] (ab .i64) (λr2 e=>
 (((bp e (Addr.add j 6) [(.pointer l)])/\((bp e (Addr.add i 9) [(.int .i64 b)])/\(True/\True)))/\aa prog vW [(.pointer l),(.int .i64 r2),(.int .i64 (yw (b+(iF (oY v (1:Int)) (1099511627776:Int)))))] (ab .i64) (λr3 w=>
 ag none (some (K.p p)) λM=>
 cD w (Addr.add M 3) [(.int .i64 (4:Int))] (λx=>
 Q x)) e)) k:=by
  have y:ax K.c p<nP K.c:=g.eR;have W:=g.procs;obtain ⟨U,b,a9,P,l9,B,h,I,O⟩:=o.iH y;have u:b.dI=some P:=B.2.2.2.2.2;obtain ⟨T,r,S,a8,D,L,_⟩:=o.dk hp;refine aP (h.ld (shf:=aj) b.dI rfl ?_);refine aP (L.ld (shf:=ab .i64) r.dp rfl ?_);have t:r.dp=(p:Int):=D.1;rw [t];refine aP (o.eB.ld (shf:=ab .i64) s.tick rfl ?_);refine HH (ya (by omega) ?_);refine ⟨⟨h.eA (n:=1) rfl,o.eB.eA (n:=1) rfl,trivial,trivial⟩,?_⟩;have V:0<pG (uH v 1) 1099511627776/\pG (uH v 1) 1099511627776<=1099511627776:=by unfold pG uH;omega
  rw [u,IW,Yo,wrap64 (by omega) (by omega)];refine SK (Ef I (by omega) (by omega) (by omega) λY F=> ?_);have G:=O _ _ F;obtain ⟨h1,z,a,Z,C,J,put⟩:=G.dk hp;exact aP (J.st (nx z 4) (by show 3+1<=15;omega) rfl λE H=>A E (put _ _ _ (C.state 4) rfl rfl H))
theorem WG {p:Nat} {n:Int} {Q:Hp->Prop} (m:dh h0 K) (mc:cg K.c) (o:Has h0 (aD K pm s d) k) (H:jr K.c s) (hp:p<nQ K.c) (hn:0<=n/\n<K.c.an) (S:∀q∈(s.part (ax K.c p)).al,(p:Int)∉q)
  (h:∀E,Has h0 (aD K pm (ij K.c s p n) d) E->Q E):
 ag none (some (K.q (ax K.c p))) λp8=>
 aN none aj k (Addr.add p8 5) λx7=>
 ag none (some (K.p p)) λp9=>
 aN none (ab .i64) k (Addr.add p9 0) λx8=>
 bI prog LW [(.pointer x7),(.int .i64 n),(.int .i64 x8)] aQ (ab .i64) (λr2 r3 g=>
 (if r2=true then
 ag none (some (K.p p)) λi=>
 aN none eT g (Addr.add i 4) λC=>
 aa prog v8 [C.v] eT (λb f=>
 ag none (some (K.p p)) λB=>
 cD f (Addr.add B 4) [(.int .i64 b.PC),(.int .i64 b.bV),(.int .i64 b.bW),(.int .i64 b.bX),(.int .i64 b.bY),(.int .i64 b.bZ),(.int .i64 b.b9),(.int .i64 b.cc),(.int .i64 b.cd)] (λr=>
 Q r)) g
 else
 ag none (some (K.p p)) λi=>
 cD g (Addr.add i 3) [(.int .i64 (3:Int))] (λf=>
 Q f))) k:=by
  have D:ax K.c p<nP K.c:=mc.eR;have l:=H.part _ D;have b3:=l.iz;have b2:=l.gJ;obtain ⟨h3,I,Z,b5,l4,T,a8,ol,G⟩:=o.qt D;have N:I.an=some Z:=T.2.2.2.2.1;obtain ⟨b1,J,b0,b4,U,a9,_⟩:=o.dk hp;refine aP (a8.ld (shf:=aj) I.an rfl ?_);refine aP (a9.ld (shf:=ab .i64) J.dp rfl ?_);have M:J.dp=(p:Int):=U.1;rw [N,M];have R:n.toNat<(s.part (ax K.c p)).al.length:=by omega
  have O:((n.toNat:Nat):Int)=n:=by omega
  have u:=List.getElem?_eq_getElem R;have t:=List.getElem?_eq_getElem (show n.toNat<(s.part (ax K.c p)).az.length by omega);generalize (s.part (ax K.c p)).al[n.toNat]=q at u;generalize (s.part (ax K.c p)).az[n.toNat]=ow at t;unfold ij at h;dsimp only at h;rw [mK t,Ri u] at h;have key:=TO (n:=n.toNat) (w:=(p:Int)) (Q:=λr2 (r3:Int) g=>(if r2=true then
 ag none (some (K.p p)) λi=>
 aN none eT g (Addr.add i 4) λC=>
 aa prog v8 [C.v] eT (λb f=>
 ag none (some (K.p p)) λB=>
 cD f (Addr.add B 4) [(.int .i64 b.PC),(.int .i64 b.bV),(.int .i64 b.bW),(.int .i64 b.bX),(.int .i64 b.bY),(.int .i64 b.bZ),(.int .i64 b.b9),(.int .i64 b.cc),(.int .i64 b.cd)] (λr=>
 Q r)) g
 else
 ag none (some (K.p p)) λi=>
 cD g (Addr.add i 3) [(.int .i64 (3:Int))] (λf=>
 Q f))) ol ⟨by have:=l.kf.1;omega,l.kf.2⟩ S (by omega) t u (λf V y=> ?_) λf V y=> ?_
  ·rw [O] at key;exact NC key
  ·dsimp only;rw [if_pos rfl];rw [if_pos f] at h;have j:=G _ _ _ y;obtain ⟨h1,z,a,Y,x,A,put⟩:=j.dk hp;have e:fT (dT z)=(s.proc p).core:=x.2.2.2.2.1;have P:(dT z).PC=(s.proc p).pc:=congrArg Core.pc e;refine aP (A.ld (shf:=eT) (dT z) rfl ?_);refine CB (Eu (by rw [P];exact H.told hp) λc' L=> ?_);refine aP (vu j hp λX F=>h X ?_);rw [L,e] at F;exact F
  ·dsimp only;rw [if_neg (by decide)];rw [if_neg f] at h;have j:=G _ _ _ y;obtain ⟨h1,z,a,Y,x,A,put⟩:=j.dk hp;exact aP (A.st (nx z 3) (by show 3+1<=15;omega) rfl λW o4=>h W (put _ _ _ (x.state 3) rfl rfl o4))
theorem HJ {w:Int}:∀ {os:List Int} {i j:Nat},os[j]? =some w->((i+j:Nat):Int)∈hold w os i
 | [],_,j,h=>by simp at h
 | o::r,i,0,h=>by unfold hold;grind
 | o::r,i,j+1,h=>by have a:=HJ (i:=i+1) (j:=j) (os:=r) (w:=w) (by simpa using h);rw [show i+1+j=i+(j+1) by omega] at a;unfold hold;grind
theorem Rj {p:Nat} {n:Int} {Q:Hp->Prop} (m:dh h0 K) (mc:cg K.c) (o:Has h0 (aD K pm s d) k) (O:jr K.c s) (hp:p<nQ K.c) (hn:0<=n/\n<K.c.an)
  (f:∀y,Has h0 (aD K pm (sL K.c s p n) d) y->Q y):
 ag none (some (K.q (ax K.c p))) λp8=>
 aN none aj k (Addr.add p8 5) λx7=>
 ag none (some (K.p p)) λp9=>
 aN none (ab .i64) k (Addr.add p9 0) λx8=>
 aa prog LR [(.pointer x7),(.int .i64 x8)] ak (λr2 D=>
 ((True/\True)/\aa prog LM [r2.v,(.int .i64 n)] aQ (λr3 b=>
 (if r3=true then
 ag none (some (K.q (ax K.c p))) λc2=>
 aN none aj b (Addr.add c2 5) λx9=>
 ag none (some (K.p p)) λc3=>
 aN none (ab .i64) b (Addr.add c3 0) λc5=>
 bI prog HC [(.pointer x9),(.int .i64 n),(.int .i64 c5)] (ab .i64) (ab .i64) (λI r5 g=>
 bK prog B0 [(.pointer (some pm)),(.int .i64 I)] (λE=>
 Q E) g) b
 else
 Q b)) D)) k:=by
  have F:ax K.c p<nP K.c:=mc.eR;have C:=O.part _ F;have d4:=C.iz;have d3:=C.gJ;have d2:=C.kf.1;obtain ⟨h3,R,b5,d9,l4,b1,b8,ol,c4⟩:=o.qt F;have W:R.an=some b5:=b1.2.2.2.2.1;obtain ⟨c8,S,c6,d5,b2,c0,_⟩:=o.dk hp;refine aP (b8.ld (shf:=aj) R.an rfl ?_);refine aP (c0.ld (shf:=ab .i64) S.dp rfl ?_);have U:S.dp=(p:Int):=b2.1;rw [W,U];have a9:n.toNat<(s.part (ax K.c p)).al.length:=by omega
  have Y:((n.toNat:Nat):Int)=n:=by omega
  have x:=List.getElem?_eq_getElem a9;have u:=List.getElem?_eq_getElem (show n.toNat<(s.part (ax K.c p)).az.length by omega);generalize (s.part (ax K.c p)).al[n.toNat]=q at x;generalize (s.part (ax K.c p)).az[n.toNat]=M at u;unfold sL at f;dsimp only at f;rw [mK u,mK x] at f;refine znr (La ol (by omega) (by omega) λsl G l=> ?_);have o3:Has h0 ((aD K pm s d).star (dD 1 fw sl (hold (p:Int) (s.part (ax K.c p)).az 0))) G:=l.carry λy o'=>by
   have D:=c4 _ _ y o';have e:s.cX (ax K.c p) {s.part (ax K.c p) with az:=(s.part (ax K.c p)).az,al:=(s.part (ax K.c p)).al}=s:=DK
   rwa [e] at D
  obtain ⟨g,A,B,hr⟩:=o3.aside (λ_=>rfl);refine ⟨⟨trivial,trivial⟩,?_⟩;have a8:(hold (p:Int) (s.part (ax K.c p)).az 0).length<=1000000:=by
   have:∀(os:List Int) (i:Nat),(hold (p:Int) os i).length<=os.length:=by
    intro os
    induction os with
    | nil=>intro i;exact Nat.le_refl _
    | cons a r ih=>intro i;have:=ih (i+1);unfold hold;split<;>simp<;>omega
   grind
  refine zii (IB (Rw.mono B.le hr) a8 ?_);have J:n∈hold (p:Int) (s.part (ax K.c p)).az 0↔M=(p:Int):=by
   constructor
   ·intro h;obtain ⟨j,e1,e2⟩:=tv h;grind
   ·intro h;subst h;have:=HJ (i:=0) u;grind
  by_cases h:M=(p:Int)
  ·rw [if_pos (decide_eq_true (J.2 h))];rw [if_pos h] at f;subst h;have L:=m.mono A;obtain ⟨d0,P,b4,d8,d6,b0,b7,b6,N⟩:=B.qt F;have X:P.an=some b4:=b0.2.2.2.2.1;obtain ⟨d1,T,c7,d7,b3,c1,_⟩:=B.dk hp;refine aP (b7.ld (shf:=aj) P.an rfl ?_);refine aP (c1.ld (shf:=ab .i64) T.dp rfl ?_);have V:T.dp=(p:Int):=b3.1;rw [X,V];have key:=Hu (n:=n.toNat) (w:=(p:Int)) (Q:=λI (r5:Int) g=>bK prog B0 [(.pointer (some pm)),(.int .i64 I)] (λE=>Q E) g) b6 (by omega) u x (λb G l=> ?_) λa r b G l=> ?_
   ·rw [Y] at key;exact zpf key
   ·subst b;have H:=N _ _ _ l;refine Po (DJ L H (λh=>absurd h (by decide)) λz t=> ?_);have t:Has g (aD K pm (s.cX (ax K.c p) {s.part (ax K.c p) with az:=(s.part (ax K.c p)).az.set n.toNat (-1),al:=(s.part (ax K.c p)).al}) d) z:=t;exact f z (t.mono A)
   ·subst b;have H:=N _ _ _ l;have Z:0<=a/\a<(nQ K.c:Int):=(C.nd _ (List.mem_of_getElem? x)).2 a (List.mem_cons_self ..);refine Po (DJ L H (λh=>⟨Z.2,?_⟩) λz t=>f z (t.mono A));exact O.told (by omega)
  ·rw [if_neg (λe=>h (J.1 (of_decide_eq_true e)))];rw [if_neg h] at f;exact f _ (B.mono A)
theorem Yp {p:Nat} {v:Int} {Q:Hp->Prop} (m:dh h0 K) (S:cg K.c) (o:Has h0 (aD K pm s d) k) (sa:jr K.c s) (hp:p<nQ K.c)
  (f:∀J,Has h0 (aD K pm (pI K.c s p v) d) J->Q J):
 ag none (some (K.q (ax K.c p))) λY=>
 aN none ak k (Addr.add Y 2) λx7=>
 ag none (some pm) λZ=>
 aN none (ab .i64) k (Addr.add (Addr.add Z 0) 5) λx8=>
 (if (decide (((x7.len:Nat):Int)<x8))=true then
 ag none (some (K.q (ax K.c p))) λy=>
 aN none ak k (Addr.add y 2) λA=>
 ag none (some pm) λF=>
 aN none (ab .i64) k (Addr.add F 9) λa9=>
 ag none (some (K.p p)) λX=>
 aN none (ab .i64) k (Addr.add X 0) λb0=>
 bD [(.int .i64 a9),(.int .i64 b0),(.int .i64 v)] (λa r=>
 (((bp r (Addr.add y 2) [A.v])/\True)/\fR 3 24 [(.int .i64 (0:Int)),(.int .i64 (0:Int)),(.int .i64 (0:Int))] A ⟨(some a),1,1⟩ (λr2 g=>
 ag none (some (K.q (ax K.c p))) λG=>
 cD g (Addr.add G 2) [r2.v] (λi=>
 Q i)) r)) k
 else
 ag none (some (K.q (ax K.c p))) λy=>
 aN none (ab .i64) k (Addr.add y 3) λA=>
 aa prog Mi [(.int .i64 A)] (ab .i64) (λr2 r=>
 ag none (some (K.q (ax K.c p))) λF=>
 cD r (Addr.add F 3) [(.int .i64 r2)] (λg=>
 Q g)) k):=by
  have I:ax K.c p<nP K.c:=S.eR;have M:=sa.part _ I;have b1:=M.jH;obtain ⟨h1,x,lp,wp,l1,j,u,put⟩:=o.qu I;have w:=Has.left u;refine aP (w.ld (shf:=ak) x.log rfl ?_);have B:(Fg K.x).Log=K.c.log:=m.cfg.log;have B:K.x.ov=K.c.log:=B;refine aP ?_;rw [sO];refine o.eB.ld (shf:=ab .i64) K.x.ov rfl ?_;have O:=u.right.left.gr;unfold pI at f;dsimp only at f;rw [B,O];by_cases h:((s.part (ax K.c p)).log.length:Int)<K.c.log
  ·rw [if_pos (decide_eq_true h)];rw [if_pos h] at f;obtain ⟨h2,z,a,l2,P,W,_⟩:=o.dk hp;refine aP (w.ld (shf:=ak) x.log rfl ?_);refine aP (o.eB.ld (shf:=ab .i64) s.tick rfl ?_);refine aP (W.ld (shf:=ab .i64) z.dp rfl ?_);have N:z.dp=(p:Int):=P.1;rw [N];obtain ⟨h3,l3,T,a8⟩:=u.f2;have key:=T.push (sz:=3) (zero:=[(.int .i64 (0:Int)),(.int .i64 (0:Int)),(.int .i64 (0:Int))]) (bytes:=24) (e:=(⟨s.tick,(p:Int),v⟩:pN)) (cs:=[(.int .i64 s.tick),(.int .i64 (p:Int)),(.int .i64 v)]) rfl (λ_=>rfl) (λ_=>rfl) rfl ⟨by omega,by omega⟩
    (K:=λr2 g=>ag none (some (K.q (ax K.c p))) λG=>
 cD g (Addr.add G 2) [r2.v] (λi=>
 Q i)) λL k2 U=> ?_
   ·exact λb t hb=>⟨⟨ph (lP hb) (w.eA (n:=1) rfl),trivial⟩,key b t hb⟩
   ·have V:=a8 _ _ U;obtain ⟨i,R,C,H⟩:=V.f1;refine aP (C.st (⟨x.procs,x.ae,L,x.lost,x.forbidden,x.an,x.dI⟩:bg) (by show 2+1<=7;omega) rfl λl D=>f l ?_);have E:=H _ _ D;have:=put (⟨x.procs,x.ae,L,x.lost,x.forbidden,x.an,x.dI⟩:bg) {s.part (ax K.c p) with log:=(s.part (ax K.c p)).log++ [⟨s.tick,(p:Int),v⟩]} (d (ax K.c p)) l j E;rw [xL] at this;exact this
  ·rw [if_neg (λe=>h (of_decide_eq_true e))];rw [if_neg h] at f;refine aP (w.ld (shf:=ab .i64) x.lost rfl ?_);have ex:x.lost=(s.part (ax K.c p)).lost:=j.2.2.1;rw [ex];refine zvj (Hy M.lost ?_);obtain ⟨i,R,C,H⟩:=u.f1;refine aP (C.st (⟨x.procs,x.ae,x.log,more (s.part (ax K.c p)).lost,x.forbidden,x.an,x.dI⟩:bg) (by show 3+1<=7;omega) rfl λl D=>f l ?_);have E:=H _ _ D;have:=put (⟨x.procs,x.ae,x.log,more (s.part (ax K.c p)).lost,x.forbidden,x.an,x.dI⟩:bg) {s.part (ax K.c p) with lost:=more (s.part (ax K.c p)).lost} (d (ax K.c p)) l ⟨j.1,j.2.1,rfl,j.2.2.2⟩ E;rw [xL] at this;exact this
end
def mL (c:aV) (s:MS) (i id:Nat):Int:=if id / 2<nQ c/\ax c (id / 2)=i then (if id%2=0 then (s.proc (id / 2)).timer else (s.proc (id / 2)).cn) else 0
def dt (c:aV) (a:Nat->Nat->Int) (s:MS):Prop:=∀i id,i<nP c->a i id=mL c s i id
def TW (s:MS):Nat->Int×Int:=λq=>((s.proc q).timer,(s.proc q).cn)
section
variable {c:aV} {s s':MS} {b:Nat->Nat->Int} {p:Nat} {y:ai}
theorem qQ (h:(y.timer,y.cn)=((s.proc p).timer,(s.proc p).cn)):TW (s.aG p y)=TW s:=by
 funext q;unfold TW;by_cases e:q=p
 ·subst e;rw [fH,h]
 ·rw [iu e]
theorem qL {v:Int}:TW (bQ c s p v)=TW s:=qQ rfl
theorem Yq :TW (oK s p)=TW s:=qQ rfl
theorem HK {kj:Int}:TW (gu s kj)=TW s:=by
 unfold gu;split
 ·exact Yq
 ·rfl
theorem B8 {q:Nat} (h:(y.timer,y.cn)=((s.proc q).timer,(s.proc q).cn)):TW (s.aG q (dH y))=TW s:=qQ h
theorem Yr {to v:Int} {fl:Nat->Nat->Bool}:TW (iI c fl s p to v)=TW s:=by
 unfold iI;split
 ·exact qL
 split
 ·exact qL
 split
 ·split
  ·exact qL
  split
  ·dsimp only;have e:TW (s.aG to.toNat (bz (s.proc to.toNat) (ax c p) (gM p v)))=TW s:=qQ rfl;rw [<-e];exact qQ rfl
  ·rw [qL];exact B8 rfl
 split
 ·rw [qL];exact qQ rfl
 ·rw [qL];exact B8 rfl
theorem IZ {t:Bool}:TW (ir c s p t)=TW s:=by
 unfold ir;dsimp only;split
 ·split
  ·exact qQ rfl
  ·rw [qL];exact qQ rfl
 ·split
  ·exact qQ rfl
  split
  ·exact qQ rfl
  ·exact qQ rfl
theorem Ys {n:Int}:TW (ij c s p n)=TW s:=by
 unfold ij;dsimp only;split
 ·unfold ij.goK;exact qQ rfl
 ·exact qQ rfl
theorem T2 {n:Int}:TW (sL c s p n)=TW s:=by
 unfold sL;dsimp only;split
 ·split
  ·rfl
  ·exact HK
 ·rfl
theorem Zg {v:Int}:TW (pI c s p v)=TW s:=rfl
theorem dt.cF (t:dt c b s) (h:TW s'=TW s):dt c b s':=λi id e=>by have:=congrFun h (id / 2);have a:(s'.proc (id / 2)).timer=(s.proc (id / 2)).timer:=congrArg Prod.fst this;have d:(s'.proc (id / 2)).cn=(s.proc (id / 2)).cn:=congrArg Prod.snd this;rw [t i id e];unfold mL;rw [a,d]
theorem dt.set (t:dt c b s) (hp:p<nQ c) {id:Nat} {v:Int} (hid:id=2*p\/id=2*p+1) (h:∀q,TW s' q=if q=p then (if id=2*p then (v,(s.proc p).cn) else ((s.proc p).timer,v)) else TW s q):dt c (cm b (ax c p) (cm (b (ax c p)) id v)) s':=λi a k=>by
 have d:=h (a / 2);by_cases e:a / 2=p
 ·rw [if_pos e] at d;unfold mL;by_cases g:ax c p=i
  ·subst g;rw [jA];have f:=t _ a k;unfold mL at f;rw [if_pos ⟨by omega,by rw [e]⟩] at f ⊢;rcases hid with rfl | rfl
   ·rw [if_pos rfl] at d;by_cases j:a=2*p
    ·subst j;rw [jA,if_pos (by omega)];exact (congrArg Prod.fst d).symm
    ·rw [jE j,if_neg (by omega)];rw [if_neg (by omega)] at f;rw [f,e];rw [e] at d;exact (congrArg Prod.snd d).symm
   ·rw [if_neg (by omega)] at d;by_cases j:a=2*p+1
    ·subst j;rw [jA,if_neg (by omega)];exact (congrArg Prod.snd d).symm
    ·rw [jE j,if_pos (by omega)];rw [if_pos (by omega)] at f;rw [f,e];rw [e] at d;exact (congrArg Prod.fst d).symm
  ·rw [jE (Ne.symm g)];have f:=t _ a k;unfold mL at f;grind
 ·rw [if_neg e] at d;have n:cm b (ax c p) (cm (b (ax c p)) id v) i a=b i a:=by
   by_cases g:i=ax c p
   ·subst g;rw [jA,jE (by omega)]
   ·rw [jE g]
  rw [n,t i a k];unfold mL;have l:(s'.proc (a / 2)).timer=(s.proc (a / 2)).timer:=congrArg Prod.fst d;have m:(s'.proc (a / 2)).cn=(s.proc (a / 2)).cn:=congrArg Prod.snd d;rw [l,m]
theorem Lh :∀ {l:List Int} {s:MS},TW (l.foldl gu s)=TW s
 | [],s=>rfl
 | a::l,s=>by rw [List.foldl_cons,Lh,HK]
theorem HL {v:Int}:∀ {l:List ly} {s:MS},TW (l.foldl (λs w=>bQ c s w.proc.toNat v) s)=TW s
 | [],s=>rfl
 | a::l,s=>by rw [List.foldl_cons,HL,qL]
theorem Zi {st:Int} (q:Nat):TW (kI c s p st) q=if q=p then (0,0) else TW s q:=by
 rw [yf];unfold qc;rw [HL];have g:TW (iU (gR (iT c (dV c s p st) p) p) p)=TW (gR (iT c (dV c s p st) p) p):=qQ rfl;rw [g];have f:TW (iT c (dV c s p st) p)=TW s:=by unfold iT;rw [Lh];have d:TW (pB c (dV c s p st) p)=TW (dV c s p st):=rfl;rw [d];have a:TW (fL s p st)=TW s:=qQ rfl;rw [<-a];funext r;show ((if r∈_ then mh p _ else _:ai).timer,(if r∈_ then mh p _ else _:ai).cn)=_;split<;>rfl
 by_cases e:q=p
 ·subst e;rw [if_pos rfl];unfold TW gR;rw [fH]
 ·rw [if_neg e,<-f];unfold TW gR;rw [iu e]
theorem dt.ended {st:Int} (t:dt c b s) (hp:p<nQ c):dt c (qd b (ax c p) p) (kI c s p st):=by
 have d:=t.set (s':=s.aG p {s.proc p with timer:=0}) hp (id:=2*p) (v:=0) (.inl rfl) λq=>by
  unfold TW;by_cases e:q=p
  ·subst e;rw [fH,if_pos rfl,if_pos rfl]
  ·rw [iu e,if_neg e]
 have a:=d.set (s':=kI c s p st) hp (id:=2*p+1) (v:=0) (.inr rfl) λq=>by
  rw [Zi];by_cases e:q=p
  ·subst e;rw [if_pos rfl,if_pos rfl,if_neg (by omega),fH]
  ·rw [if_neg e,if_neg e];unfold TW;rw [iu e]
 rw [jA,Ks] at a;exact a
end
theorem WH {D:Int->Int->Int->Int} {l:List dP} {k:Core} {tk self:Int} (a:0<=k.pc/\k.pc<=1000) (d:k.br.length=8) (g:l.length<=256):0<=(gg D l k tk self).1.pc/\(gg D l k tk self).1.pc<=1000:=by
 rcases DV (D:=D) (l:=l) (k:=k) (tk:=tk) (self:=self) with ⟨_,e⟩ | ⟨n,b,f,⟨_,e⟩ | ⟨w,st,_,e⟩⟩
 ·rw [e];exact a
 ·rw [e];have:=(Kz (D:=D) (tk:=tk) (self:=self) b f d).1;grind
 ·rw [e];have h:0<=k.pc/\k.pc<l.length:=AU (c:=⟨[],[],0,0,0,0,[⟨0,l⟩]⟩) (p:=0) (x:=⟨0,k.pc,[],0,0,false,0,[]⟩) b;cases st
  ·show 0<=k.pc+1/\k.pc+1<=1000;omega
  ·exact a
section
variable {h0 h1 k:Hp} {K:MK} {pm:Addr} {s:MS} {f:Nat->Nat->Int}
theorem WI {p:Nat} {Q:Hp->Prop} (tk:xY) (m:dh h0 K) (u:cg K.c) (o:Has h0 (aD K pm s f) k) (S:jr K.c s) (hp:p<nQ K.c) (Y:0<=s.tick/\s.tick<=4611686018427387904) (hr:(s.proc p).br.length=8)
  (hw:∀q,q<nQ K.c->∀l∈(s.proc q).af,∀z∈l.waiters,z.proc≠(p:Int)) (b4:∀q∈(s.part (ax K.c p)).al,(p:Int)∉q) (td:dt K.c f s)
  (g:∀a9 i,Has h0 (aD K pm (sb K.c fF (gY K.c) s p) a9) i->dt K.c a9 (sb K.c fF (gY K.c) s p)->Q i):Q2 prog (some pm) (some (K.p p)) Q k:=by
 unfold Q2;have hi:ax K.c p<nP K.c:=u.eR;obtain ⟨h1,z,a,l1,P,R,put⟩:=o.dk hp;have e:fT (dT z)=(s.proc p).core:=P.2.2.2.2.1;have ei:z.dp=(p:Int):=P.1;refine aP (R.ld (shf:=eT) (dT z) rfl ?_);refine aP (R.ld (shf:=ak) z.code rfl ?_);refine aP (o.eB.ld (shf:=ab .i64) s.tick rfl ?_);refine aP (R.ld (shf:=ab .i64) z.dp rfl ?_);rw [ei];have U:=(m.code p hp).2;have b2:(gz K.c p).length<=256:=u.mT;have c1:(K.ins p).length<=256:=by have:=congrArg List.length U;rw [List.length_map] at this;omega
 refine ZH (WA (m.qj o.le hp P) (by omega) λc' w k1 l2 T v=> ?_);rw [U,e] at T v;refine aP (vu (o.grow l2) hp λk2 t=> ?_);rw [T] at t;have sp:=S.proc p hp;have b5:=WH (D:=fF) (l:=gz K.c p) (k:=(s.proc p).core) (tk:=s.tick) (self:=(p:Int)) sp.pc hr b2;have W:(w.Kind=7\/w.Kind=8)->0<=w.To/\w.To<K.c.an:=by
  intro h;rcases DV (D:=fF) (l:=gz K.c p) (k:=(s.proc p).core) (tk:=s.tick) (self:=(p:Int)) with ⟨C,_⟩ | ⟨n,hn,c2,⟨_,C⟩ | ⟨w',st,b7,C⟩⟩
  ·rw [<-v] at C;have:w.Kind=1:=C;omega
  ·rw [C] at v;have:w.Kind=0:=congrArg Want.kind v;omega
  ·rw [C] at v;have v:rO w=w':=v;subst v;have b3:dF K.c p (s.proc p)=some n:=hn;have Z:=(u.ins b3).1;rcases Ky b7 with ⟨a,_⟩ | ⟨_,a,_⟩ | ⟨_,a,_⟩ | ⟨_,a,_⟩ | ⟨a,_⟩ | ⟨_,a,_⟩ | ⟨b,a,d,_⟩ | ⟨b,a,d,_⟩ | ⟨a,_⟩
   ·have a:w.Kind=1:=a;omega
   ·have a:w.Kind=2:=congrArg Want.kind a;omega
   ·have a:w.Kind=3:=a;omega
   ·have a:w.Kind=4:=a;omega
   ·have a:w.Kind=5:=a;omega
   ·have a:w.Kind=6:=a;omega
   ·have d:w.To=n.lL:=d;rw [d];exact wT Z (.inl b)
   ·have d:w.To=n.lL:=d;rw [d];exact wT Z (.inr b)
   ·have a:w.Kind=9:=a;omega
 unfold sb at g;dsimp only at g;rw [<-v] at g;generalize hg:(gg fF (gz K.c p) (s.proc p).core s.tick (p:Int)).1=E at*;have B:jr K.c (s.aG p ((s.proc p).put E)):=by
  refine ⟨λq O=> ?_,S.part⟩;by_cases eq:q=p
  ·subst eq;rw [fH];exact ⟨b5,sp.len,sp.cur,sp.dJ⟩
  ·rw [iu eq];exact S.proc q O
 have y:dt K.c f (s.aG p ((s.proc p).put E)):=td.cF (qQ rfl);have b6:∀q,q<nQ K.c->∀l∈((s.aG p ((s.proc p).put E)).proc q).af,∀z∈l.waiters,z.proc≠(p:Int):=λq O l V=>by
  have:((s.aG p ((s.proc p).put E)).proc q).af=(s.proc q).af:=by
   by_cases eq:q=p
   ·subst eq;rw [fH];rfl
   ·rw [iu eq]
  rw [this] at V;exact hw q O l V
 generalize X:s.aG p ((s.proc p).put E)=s1 at*;have F:s1.tick=s.tick:=by rw [<-X];rfl
 have b0:s1.part=s.part:=by rw [<-X];rfl
 obtain ⟨h3,z3,a3,l3,b8,c0,_⟩:=t.dk hp;obtain ⟨g1,g2⟩:=m.tg t hi;refine aP (t.eB.ld (shf:=ak) K.x.parts rfl ?_);refine aP (c0.ld (shf:=ab .i64) z3.part rfl ?_);have ep:z3.part=(ax K.c p:Int):=b8.2.1;rw [ep];refine ⟨g1,some (K.q (ax K.c p)),g2,?_⟩;dsimp only;have j:∀n:Int,(w.Kind==n)=true↔w.Kind=n:=λn=>by simp
 have ek:(rO w).kind=w.Kind:=rfl;have b1:(rO w).to=w.To:=rfl;have ev:(rO w).value=w.dQ:=rfl;rw [ek,b1,ev] at g;by_cases J:w.Kind=1
 ·rw [if_pos ((j 1).2 J)];simp only [if_pos J] at g;exact zkn (HI m u t B hp λi r=>g _ i r (y.ended hp))
 rw [if_neg (λh=>J ((j 1).1 h))];simp only [if_neg J] at g;by_cases L:w.Kind=2
 ·rw [if_pos ((j 2).2 L)];simp only [if_pos L] at g;exact zss (TU m u t B hp b6 λi r=>g _ i r (y.cF Yr))
 rw [if_neg (λh=>L ((j 2).1 h))];simp only [if_neg L] at g;by_cases A:w.Kind=3
 ·simp only [if_pos A] at g;refine eZ.direct ?_;rw [if_pos ((j 3).2 A)];dsimp only;rw [if_pos ((j 3).2 A),show (w.Kind==4)=false by rw [A];rfl];exact zjw (Le tk m u t B hp λi r=>g _ i r (y.cF IZ))
 simp only [if_neg A] at g;by_cases G:w.Kind=4
 ·simp only [if_pos G] at g;refine eZ.direct ?_;rw [if_neg (λh=>A ((j 3).1 h))];dsimp only;rw [if_pos ((j 4).2 G),(j 4).2 G];exact zjw (Le tk m u t B hp λi r=>g _ i r (y.cF IZ))
 simp only [if_neg G] at g;refine eZ.direct ?_;rw [if_neg (λh=>A ((j 3).1 h))];dsimp only;rw [if_neg (λh=>G ((j 4).1 h))];by_cases M:w.Kind=5
 ·rw [if_pos ((j 5).2 M)];simp only [if_pos M] at g;refine T0 m u t hp (by rw [F];exact Y) λi r=> ?_;refine g (uW f (ax K.c p) p s1.tick w.dQ) i ?_ ?_
  ·rw [EP,EU] at r ⊢;rw [F] at r ⊢;exact r
  ·refine y.set hp (.inl rfl) λq=> ?_;unfold TW;by_cases eq:q=p
   ·subst eq;rw [fH,if_pos rfl,if_pos rfl,F]
   ·rw [iu eq,if_neg eq]
 rw [if_neg (λh=>M ((j 5).1 h))];simp only [if_neg M] at g;by_cases N:w.Kind=6
 ·rw [if_pos ((j 6).2 N)];simp only [if_pos N] at g;refine T1 m u t hp (by rw [F];exact Y) λi r=> ?_;refine g (cm f (ax K.c p) (cm (f (ax K.c p)) (2*p+1) (s1.tick+pG (uH w.dQ 1) 1099511627776))) i ?_ ?_
  ·rw [EP,EU] at r ⊢;exact r
  ·refine y.set hp (.inr rfl) λq=> ?_;unfold TW;by_cases eq:q=p
   ·subst eq;rw [fH,if_pos rfl,if_neg (by omega),F]
   ·rw [iu eq,if_neg eq]
 rw [if_neg (λh=>N ((j 6).1 h))];simp only [if_neg N] at g;by_cases H:w.Kind=7
 ·rw [if_pos ((j 7).2 H)];simp only [if_pos H] at g;exact WG m u t B hp (W (.inl H)) (by rw [b0];exact b4) λi r=>g _ i r (y.cF Ys)
 rw [if_neg (λh=>H ((j 7).1 h))];simp only [if_neg H] at g;by_cases I:w.Kind=8
 ·rw [if_pos ((j 8).2 I)];simp only [if_pos I] at g;exact Rj m u t B hp (W (.inr I)) λi r=>g _ i r (y.cF T2)
 rw [if_neg (λh=>I ((j 8).1 h))];simp only [if_neg I] at g;by_cases a8:w.Kind=9
 ·rw [if_pos ((j 9).2 a8)];simp only [if_pos a8] at g;exact Yp m u t B hp λi r=>g _ i r (y.cF Zg)
 grind
end
def nv (x:ai):ai:={x with cn:=0,state:=0,pc:=x.pc+1}
def re (x:ai):ai:={x with timer:=0,bF:=true,state:=if x.state=1 then 0 else x.state}
def ju (a:List Int) (q:Nat) (x:ai):ai:=
 if ((2*q:Nat):Int)∈a then re (if ((2*q+1:Nat):Int)∈a then nv x else x) else (if ((2*q+1:Nat):Int)∈a then nv x else x)
def kW (s:MS) (a:List Int):MS:=⟨s.tick,s.part,λq=>ju a q (s.proc q)⟩
theorem I0 {t:Int} {x:ai}:kX t x=(if 0<x.timer/\x.timer<=t then re (if 0<x.cn/\x.cn<=t then nv x else x) else (if 0<x.cn/\x.cn<=t then nv x else x)):=by
 unfold kX;dsimp only;by_cases h:0<x.cn/\x.cn<=t
 ·simp only [if_pos h];rfl
 ·simp only [if_neg h];rfl
theorem T5 {a:List Int} {q:Nat} {x:ai} (h:((2*q+1:Nat):Int)∉a):ju (a++ [((2*q+1:Nat):Int)]) q x=nv (ju a q x):=by
 unfold ju;have b:((2*q+1:Nat):Int)∈a++ [((2*q+1:Nat):Int)]:=by simp
 have c:((2*q:Nat):Int)∈a++ [((2*q+1:Nat):Int)]↔((2*q:Nat):Int)∈a:=by grind
 simp only [if_pos b,if_neg h,c];split
 ·unfold re nv;simp
 ·rfl
theorem Li {a:List Int} {q:Nat} {x:ai} (h:((2*q:Nat):Int)∉a):ju (a++ [((2*q:Nat):Int)]) q x=re (ju a q x):=by unfold ju;grind
theorem Rl {a:List Int} {q:Nat} {x:ai} {id:Int} (b:id≠((2*q:Nat):Int)) (c:id≠((2*q+1:Nat):Int)):ju (a++ [id]) q x=ju a q x:=by unfold ju;grind
theorem T7 {s:MS} {a:List Int} {id:Int} {q:Nat} {y:ai} (h:id=((2*q:Nat):Int)\/id=((2*q+1:Nat):Int)) (b:qW y=qW (ju (a++ [id]) q (s.proc q))):tD ((kW s a).aG q y)=tD (kW s (a++ [id])):=by
 rw [EU,b];unfold tD kW MS.aG;congr 1;funext r;unfold cm;by_cases e:r=q
 ·grind
 ·rw [if_neg e];show qW (ju a r (s.proc r))=qW (ju (a++ [id]) r (s.proc r));rw [Rl (by omega) (by omega)]
section
variable {h0 h1 k:Hp} {K:MK} {pm:Addr} {s:MS} {b:Nat->Nat->Int}
theorem WJ {c:aV} {i:Nat} {ids:List Int} (d:dt c b s) (a:i<nP c) (o:∀x∈ids,0<=x/\x<(2*nQ c:Nat)) (g:∀j:Nat,(j:Int)∈ids↔0<b i j/\b i j<=s.tick):kW s ids=gQ c s i:=by
 unfold kW gQ;congr 1;funext q;by_cases h:q<nQ c/\ax c q=i
 ·rw [if_pos h,I0];unfold ju;have l:b i (2*q)=(s.proc q).timer:=by rw [d i _ a];unfold mL;rw [show 2*q / 2=q by omega,if_pos h,if_pos (by omega)]
  have m:b i (2*q+1)=(s.proc q).cn:=by rw [d i _ a];unfold mL;rw [show (2*q+1) / 2=q by omega,if_pos h,if_neg (by omega)]
  grind
 ·rw [if_neg h];have e:∀j,j / 2=q->¬(j:Int)∈ids:=λj n f=>by have h1:=(g j).1 f;rw [d i _ a] at h1;unfold mL at h1;grind
  unfold ju;rw [if_neg (e _ (by omega)),if_neg (e _ (by omega))]
theorem dt.due {c:aV} {i:Nat} (g:dt c b s) (m:i<nP c):dt c (cm b i (ni (b i) s.tick)) (gQ c s i):=λj id f=>by
 have key:∀x:ai,(kX s.tick x).timer=(if 0<x.timer/\x.timer<=s.tick then 0 else x.timer)/\(kX s.tick x).cn=(if 0<x.cn/\x.cn<=s.tick then 0 else x.cn):=λx=>by rw [I0];by_cases h1:0<x.timer/\x.timer<=s.tick<;>by_cases a:0<x.cn/\x.cn<=s.tick<;>simp [h1,a,re,nv]
 by_cases e:j=i
 ·subst e;rw [jA];unfold ni;rw [g j id f];unfold mL;by_cases h:id / 2<nQ c/\ax c (id / 2)=j
  ·rw [if_pos h,if_pos h];have d:(gQ c s j).proc (id / 2)=kX s.tick (s.proc (id / 2)):=if_pos h;rw [d];by_cases a:id%2=0
   ·rw [if_pos a,if_pos a];exact (key _).1.symm
   ·rw [if_neg a,if_neg a];exact (key _).2.symm
  omega
 ·rw [jE e,g j id f];unfold mL;by_cases h:id / 2<nQ c/\ax c (id / 2)=j
  ·rw [if_pos h,if_pos h];have d:(gQ c s i).proc (id / 2)=s.proc (id / 2):=if_neg (by rw [h.2];exact λl=>e l.2);rw [d]
  omega
theorem Yt {i:Nat} {Q:Hp->Prop} (m:dh h0 K) (mc:cg K.c) (o:Has h0 (aD K pm s b) k) (sa:jr K.c s) (w:i<nP K.c) (H:dt K.c b s)
  (W:∀I j,Has h0 (aD K pm (gQ K.c s i) I) j->dt K.c I (gQ K.c s i)->Q j):RP prog (some pm) (some (K.q i)) Q k:=by
 unfold RP;have b7:=mc.procs;obtain ⟨h7,J,c0,b0,l7,Z,a8,ow,a9⟩:=o.iH w;have P:J.dI=some b0:=Z.2.2.2.2.2;refine aP (a8.ld (shf:=aj) J.dI rfl ?_);refine aP (o.eB.ld (shf:=ab .i64) s.tick rfl ?_);rw [P];refine OD (Wj ow (by omega) λsl k2 ids A Y X o2=> ?_);have f:Has h0 ((aD K pm s (cm b i (ni (b i) s.tick))).star (dD 1 fw sl ids)) k2:=o2.carry λj d=>a9 _ j d;obtain ⟨r,G,o7,E⟩:=f.aside (λ_=>rfl);have m6:=m.mono G;have b2:ids.length<=2*nQ K.c:=vr (2*nQ K.c) ids Y A;have b4:=E.1;refine aA.intro (λ(t:Int) j=>0<=t/\t<=(ids.length:Int)/\Has r (aD K pm (kW s (ids.take t.toNat)) (cm b i (ni (b i) s.tick))) j) (λt _=>(ids.length-t).toNat) ⟨by omega,by omega,by
  have e:kW s (ids.take (0:Int).toNat)=s:=by unfold kW ju;simp
  rw [e];exact o7⟩ ?_
 rintro t j ⟨t0,t1,d⟩;by_cases h:t<(ids.length:Int)
 ·rw [if_pos (decide_eq_true (by omega))];refine bU.direct ?_;refine Rs.get (sh:=ab .i64) (Rw.mono d.le E) (λ_=>rfl) (by omega) t0 h λ(g:Int) v=> ?_;have V:=A g (List.mem_of_getElem? v);have u:g.toNat / 2<nQ K.c:=by omega
  have T:yw (Int.tdiv g 2)=((g.toNat / 2:Nat):Int):=by rw [Int.tdiv_eq_ediv_of_nonneg V.1,wrap64 (by omega) (by omega)];omega
  have b6:g∉ids.take t.toNat:=by
   intro b3;obtain ⟨b5,U⟩:=List.getElem?_eq_some_iff.1 v;have b8:ids=ids.take t.toNat++g::ids.drop (t.toNat+1):=by rw [<-U,List.getElem_cons_drop,List.take_append_drop]
   grind
  generalize b1:g.toNat / 2=q at*;obtain ⟨R,S⟩:=m6.ptr d u;refine aP (d.eB.ld (shf:=ak) K.x.procs rfl ⟨by decide,?_⟩);rw [T];refine ⟨R,some (K.p q),S,?_⟩;obtain ⟨h2,z,a,l2,n,C,put⟩:=d.dk u;have M:z.dp=(q:Int):=n.1;refine aP (C.ld (shf:=ab .i64) z.dp rfl ?_);rw [M];refine HH (ya (by omega) ?_);have step:∀ {y:ai} {l:Hp},qW y=qW (ju (ids.take t.toNat++ [g]) q (s.proc q))->Has r (aD K pm ((kW s (ids.take t.toNat)).aG q y) (cm b i (ni (b i) s.tick))) l->
    (0<=yw (t+1)/\yw (t+1)<=(ids.length:Int)/\Has r (aD K pm (kW s (ids.take (yw (t+1)).toNat)) (cm b i (ni (b i) s.tick))) l)/\(ids.length-yw (t+1)).toNat<(ids.length-t).toNat:=by
   intro y l hy f;rw [wrap64 (by omega) (by omega)];refine ⟨⟨by omega,by omega,?_⟩,by omega⟩;have e:(t+1).toNat=t.toNat+1:=by omega
   rw [e,List.take_add_one,v];show Has r (aD K pm (kW s (ids.take t.toNat++ [g])) _) l;rw [EP,<-T7 (q:=q) (y:=y) (by omega) hy,<-EP];exact f
  by_cases B:g=((2*q+1:Nat):Int)
  ·rw [if_pos (by rw [B];simp)];have O:((kW s (ids.take t.toNat)).proc q).pc=(s.proc q).pc:=by show (ju (ids.take t.toNat) q (s.proc q)).pc=_;unfold ju;rw [if_neg (c:=((2*q+1:Nat):Int)∈_) (by grind)];split<;>rfl
   have e:fT (dT z)=((kW s (ids.take t.toNat)).proc q).core:=n.2.2.2.2.1;have N:(dT z).PC=(s.proc q).pc:=(congrArg Core.pc e).trans O;refine aP (C.ld (shf:=eT) (dT z) rfl ?_);refine CB (Eu (by rw [N];exact sa.told u) λc' L=> ?_);refine Pw (Eh d u λl f=>step ?_ f);rw [L,e,B,T5 (by grind)];rfl
  ·rw [if_neg (by simpa using B)];have F:g=((2*q:Nat):Int):=by omega
   refine aP (C.st (tJ z true) (by show 13+1<=15;omega) rfl λl f=> ?_);have D:z.state=((kW s (ids.take t.toNat)).proc q).state:=n.2.2.2.1;refine aP (f.ld (shf:=ab .i64) z.state rfl ?_);by_cases h1:z.state=1
   ·rw [if_pos (by rw [h1];rfl)];refine aP (f.st (nx (tJ z true) 0) (by show 3+1<=15;omega) rfl λk4 o4=> ?_);refine step ?_ (put _ _ _ ((n.bF true).state 0) rfl rfl o4);rw [F,Li (by grind)];unfold re;rw [if_pos (by rw [<-h1,D];rfl)];rfl
   ·rw [if_neg (by simpa using h1)];refine step ?_ (put _ _ _ (n.bF true) rfl rfl f);rw [F,Li (by grind)];unfold re;rw [if_neg (by rw [D] at h1;exact h1)];rfl
 ·rw [if_neg (λe=>h (by grind))];have e:t.toNat=ids.length:=by omega
  rw [e,List.take_of_length_le (Nat.le_refl _),WJ H w A X] at d;exact W _ j (d.mono G) (H.due w)
end
section
variable {c:aV} {fl:Nat->Nat->Bool} {s:MS} {T:Int}
theorem Good.pK (m:cg c) (g:Good c fl s No No T):jr c s where
 proc:=λp hp=>by
  have pm:=g.proc p hp;have G:=m.mT (p:=p);have H:=m.lane;have e:=m.procs;refine ⟨by have:=pm.pc;omega,pm.lr,pm.cur,λl a=> ?_⟩;obtain ⟨i,f,n⟩:=List.getElem_of_mem a;have d:(s.proc p).af[i]? =some l:=by grind
  obtain ⟨a1,a2,a3,_⟩:=pm.dJ i l d;obtain ⟨b,j,o⟩:=g.dJ p hp i l d;have B:∀w∈l.waiters,0<=w.proc/\w.proc<(nQ c:Int):=λw A=>by obtain ⟨r,t,_⟩:=o w A;omega
  have y:=vr (nQ c) (l.waiters.map (·.proc)) b λx I=>by grind
  rw [List.length_map] at y;exact ⟨by omega,by omega,a2,a3,b,B⟩
 part:=λi f=>by
  have pm:=g.part i f;have u:=m.log;have D:=m.an;have E:=m.procs;have F:(dK c i).length<=nQ c:=by have u:(dK c i).length<=(List.range (nQ c)).length:=List.length_filter_le ..;grind
  have e:∀q∈(s.part i).al,q.Nodup/\∀z∈q,0<=z/\z<(nQ c:Int):=λq a=>by
   obtain ⟨k,v,n⟩:=List.getElem_of_mem a;have d:(s.part i).al[k]? =some q:=by rw [List.getElem?_eq_getElem v,n]
   obtain ⟨b,j,_⟩:=g.iy i f k q d;exact ⟨b,λz C=>by obtain ⟨r,t,_⟩:=j z C;omega⟩
  refine ⟨⟨pm.cur.1,?_⟩,by have:=pm.jH;omega,pm.lost,pm.kJ,by have:=pm.gJ;have:=pm.iz;omega,pm.iz,⟨by have:=pm.iz;omega,λq a=> ?_⟩,e⟩
  ·by_cases h:0<(s.part i).ae
   ·have:=pm.cur.2 h;omega
   ·omega
  ·have:=vr (nQ c) q (e q a).1 (e q a).2;omega
theorem WK {i t:Nat} (g:t<(dK c i).length) (j:∀k,k<t->(s.proc ((dK c i).getD (((s.part i).ae.toNat+k)%(dK c i).length) 0)).state≠0) (h:(s.proc ((dK c i).getD (((s.part i).ae.toNat+t)%(dK c i).length) 0)).state=0):
  ik c s i=some (((s.part i).ae.toNat+t)%(dK c i).length):=by
 unfold ik;have e:List.range (dK c i).length=List.range t++(t::(List.range (dK c i).length).drop (t+1)):=by
  have a:(List.range (dK c i).length)[t]? =some t:=List.getElem?_range g;obtain ⟨b,d⟩:=List.getElem?_eq_some_iff.1 a;have f:List.take t (List.range (dK c i).length)=List.range t:=by rw [List.take_range,Nat.min_eq_left (by omega)]
  calc List.range (dK c i).length=(List.range (dK c i).length).take t++(List.range (dK c i).length).drop t:=(List.take_append_drop t _).symm
   _=_:=by rw [f,List.drop_eq_getElem_cons b,d]
 grind
theorem WL {i:Nat} (a:∀k,k<(dK c i).length->(s.proc ((dK c i).getD (((s.part i).ae.toNat+k)%(dK c i).length) 0)).state≠0):ik c s i=none:=by unfold ik;grind
theorem Ot {D:Int->Int->Int->Int} {i a n:Nat} (h:ik c s i=some a):kQ c D fl i (n+1) s=kQ c D fl i n (ji c D fl s i a):=by
 have e:kQ c D fl i (n+1) s=(match ik c s i with
  | none=>s
  | some a=>kQ c D fl i n (ji c D fl s i a)):=rfl
 rw [e,h]
theorem Good.Bl (g:Good c fl s No No T) {p:Nat} (r:(s.proc p).state=0):(∀q,q<nQ c->∀l∈(s.proc q).af,∀z∈l.waiters,z.proc≠(p:Int))/\∀i,i<nP c->∀q∈(s.part i).al,(p:Int)∉q:=by
 have h:Out s No No p:=wa ⟨by omega,by omega⟩;refine ⟨λq b l m w o e=> ?_,λi f q b n=> ?_⟩
 ·obtain ⟨i,f,d⟩:=List.getElem_of_mem m;have a:(s.proc q).af[i]? =some l:=by grind
  exact ((g.dJ q b i l a).2.2 w o).out h (by omega)
 ·obtain ⟨k,j,d⟩:=List.getElem_of_mem b;have a:(s.part i).al[k]? =some q:=by rw [List.getElem?_eq_getElem j,d]
  exact ((g.iy i f k q a).2.1 _ n).out h (by omega)
end
section
variable {h0 h1 k:Hp} {K:MK} {pm:Addr} {s:MS} {b:Nat->Nat->Int}
theorem WM {p:Int} {Q:Int->Hp->Prop} (m:dh h0 K) (l:cg K.c) (o:Has h0 (aD K pm s b) k) (q:jr K.c s) (r:dt K.c b s) (d:∀i a,Has h0 (aD K pm (ig K.c s p).1 i) a->dt K.c i (ig K.c s p).1->Q (ig K.c s p).2 a):QQ prog (some pm) p Q k:=by
 unfold QQ;refine zjv (Ld m o ?_);unfold ig at d;by_cases h:pS K.c s p≠0
 ·grind
 rw [if_neg (by simpa using h)];rw [if_neg h] at d;obtain ⟨t,e,u⟩:=DR (Classical.not_not.1 h);have j:((p.toNat:Nat):Int)=p:=by omega
 obtain ⟨f,g⟩:=m.ptr o e;rw [j] at f g;refine aP (o.eB.ld (shf:=ak) K.x.procs rfl ⟨f,some (K.p p.toNat),g,?_⟩);exact zkn (HI m l o q e λa n=>d _ a n (r.ended e))
theorem aap {t:Int} {Q:Int->Hp->Prop} (m:dh k K) (u:cg K.c) (o:0<=t) (f:Q (iv K.c t:Int) k):SY prog (some K.sl) t Q k:=by
 unfold SY;obtain ⟨sl,n,h,e⟩:=m.s2;have g:=u.table;have q:=e.1;have r:0<K.c.table.length:=List.length_pos_iff.2 g.1;have ld:∀ {a:Sl->Prop},a sl->aN none ak k (K.sl.add 0) a:=λ{a} p=>⟨sl,λj v hv=>by
  cases j with
  | zero=>have:=h 0 v (by simpa [be,Sl.v] using hv);rw [sO];exact this
  | succ j=>simp [be] at hv,p⟩
 rw [if_neg (by simp;omega)];refine aP (ld (aP (ld ⟨by omega,?_⟩)));have l:Int.tmod t ((sl.len:Nat):Int)=((t.toNat%K.c.table.length:Nat):Int):=by rw [Int.tmod_eq_emod_of_nonneg o,q,Int.natCast_emod];congr 1;omega
 rw [l];have w:t.toNat%K.c.table.length<K.c.table.length:=Nat.mod_lt _ r;refine Rs.get (sh:=ab .i64) e (λ_=>rfl) (by omega) (by omega) (by omega) λ(x:Int) d=> ?_;rw [Int.toNat_natCast] at d;unfold iv at f;have i:K.c.table.getD (t.toNat%K.c.table.length) 0=x:=by simp [List.getD,d]
 rw [i] at f;have:=g.2.2 x (List.mem_of_getElem? d);grind
theorem WN {Q:Int->Hp->Prop} (tk:xY) (m:dh h0 K) (l:cg K.c) (o:Has h0 (aD K pm s b) k) (g:Good K.c (gY K.c) s No No s.tick) (ht:s.tick<4611686018427387904) (td:dt K.c b s)
  (P:∀r u,Has h0 (aD K pm (iJ K.c fF (gY K.c) s) r) u->dt K.c r (iJ K.c fF (gY K.c) s)->Q (iv K.c s.tick:Int) u):QT prog (some pm) Q k:=by
 unfold QT;have b4:=g.tick;have e1:=l.fuel;have n:=l.je (t:=s.tick);have e3:=l.procs;refine aP (o.eB.ld (shf:=aj) K.x.qz rfl ?_);refine aP (o.eB.ld (shf:=ab .i64) s.tick rfl ?_);rw [m.s1];refine zzf (aap (m.mono o.le) l b4 ?_);have b2:iJ K.c fF (gY K.c) s=⟨(kQ K.c fF (gY K.c) (iv K.c s.tick) K.c.fuel.toNat (gQ K.c s (iv K.c s.tick))).tick+1,(kQ K.c fF (gY K.c) (iv K.c s.tick) K.c.fuel.toNat (gQ K.c s (iv K.c s.tick))).part,(kQ K.c fF (gY K.c) (iv K.c s.tick) K.c.fuel.toNat (gQ K.c s (iv K.c s.tick))).proc⟩:=rfl;rw [b2] at P;generalize iv K.c s.tick=i at*;obtain ⟨g1,g2⟩:=m.tg o n;refine aP (o.eB.ld (shf:=ak) K.x.parts rfl ⟨g1,some (K.q i),g2,?_⟩);have gd:=(g.qI (T':=s.tick+1) (by omega)).due (i:=i);refine zvi (Yt m l o (g.pK l) n td λd3 k1 Y d0=> ?_);have a9:K.x.lH=K.c.fuel:=m.cfg.fuel;have H:(gQ K.c s i).tick=s.tick:=rfl;generalize gQ K.c s i=s1 at*;refine aP ?_;rw [sO];refine Y.eB.ld (shf:=ab .i64) K.x.lH rfl ?_;rw [a9];obtain ⟨d7,d2⟩:=Good.turns (D:=fF) l n K.c.fuel.toNat gd (by rw [H]);refine bU.intro (λu=>∃r,Has h0 (aD K pm (kQ K.c fF (gY K.c) i K.c.fuel.toNat s1) r) u/\dt K.c r (kQ K.c fF (gY K.c) i K.c.fuel.toNat s1)) ?_ ?_
 ·refine aA.intro (λ(t:Int) u=>0<=t/\t<=K.c.fuel/\∃d r,Has h0 (aD K pm d r) u/\dt K.c r d/\Good K.c (gY K.c) d No No (s.tick+1)/\d.tick=s.tick/\kQ K.c fF (gY K.c) i (K.c.fuel-t).toNat d=kQ K.c fF (gY K.c) i K.c.fuel.toNat s1) (λt _=>(K.c.fuel-t).toNat) ⟨by omega,by omega,s1,d3,Y,d0,gd,H,by rw [Int.sub_zero]⟩ ?_;rintro t u ⟨t0,t1,d,r,y,c8,F,O,A⟩;by_cases h:t<K.c.fuel
  ·rw [if_pos (decide_eq_true h)];have S:=(m.own i n).mono y.le;have J:=S.1;rw [List.length_map] at J;have d9:(dK K.c i).length<=1000:=by have h1:(dK K.c i).length<=(List.range (nQ K.c)).length:=List.length_filter_le ..;grind
   have en:(K.c.fuel-t).toNat=(K.c.fuel-(t+1)).toNat+1:=by omega
   rw [en] at A;have si:=(F.pK l).part i n;have d8:=si.cur;obtain ⟨h3,x,lp,wp,l3,U,C,_⟩:=y.sx n;have E:x.procs=K.own i:=U.1;have ec:x.ae=(d.part i).ae:=U.2.1;refine aP (C.ld (shf:=ak) x.procs rfl ?_);rw [E];refine aA.intro (λ(j:Int) W=>W=u/\0<=j/\j<=((dK K.c i).length:Int)/\∀B,B<j.toNat->(d.proc ((dK K.c i).getD (((d.part i).ae.toNat+B)%(dK K.c i).length) 0)).state≠0) (λj _=>((dK K.c i).length-j).toNat) ⟨rfl,by omega,by omega,λB b8=>by omega⟩ ?_;rintro j _ ⟨rfl,j0,j1,R⟩;by_cases hj:j<((dK K.c i).length:Int)
   ·rw [if_pos (decide_eq_true (by omega))];refine aP (C.ld (shf:=ab .i64) x.ae rfl ?_);refine aP (C.ld (shf:=ak) x.procs rfl ?_);rw [E,ec];have b5:Int.tmod (yw ((d.part i).ae+j)) (((K.own i).len:Nat):Int)=((((d.part i).ae.toNat+j.toNat)%(dK K.c i).length:Nat):Int):=by rw [wrap64 (by omega) (by omega),Int.tmod_eq_emod_of_nonneg (by omega),J,Int.natCast_emod];grind
    rw [b5];have I:((d.part i).ae.toNat+j.toNat)%(dK K.c i).length<(dK K.c i).length:=Nat.mod_lt _ (by omega);refine ⟨by omega,?_⟩;refine aP (y.eB.ld (shf:=ak) K.x.procs rfl ?_);refine aP (C.ld (shf:=ak) x.procs rfl ?_);rw [E];generalize ha:((d.part i).ae.toNat+j.toNat)%(dK K.c i).length=a at I ⊢;refine Rs.get (sh:=ab .i64) S (λ_=>rfl) (by omega) (by omega) (by grind) λ(q':Int) v=> ?_;rw [Int.toNat_natCast,List.getElem?_map] at v;have b7:=List.getElem?_eq_getElem I;rw [b7] at v;have v:((dK K.c i)[a]:Int)=q':=Option.some.inj v;have b0:(dK K.c i).getD a 0=(dK K.c i)[a]:=by grind
    have L:(dK K.c i)[a]∈dK K.c i:=List.getElem_mem I;rw [<-b0] at v L;generalize c2:(dK K.c i).getD a 0=q at v L;subst v;obtain ⟨G,c1⟩:=fD.1 L;obtain ⟨g5,g6⟩:=m.ptr y G;refine ⟨g5,some (K.p q),g6,?_⟩;obtain ⟨h4,z,ad,l4,hz,oz,_⟩:=y.dk G;refine aP (oz.ld (shf:=ab .i64) z.state rfl ?_);have b1:z.state=(d.proc q).state:=hz.2.2.2.1;rw [b1];by_cases M:(d.proc q).state=0
    ·rw [if_pos (by rw [M];rfl)];refine aP (C.ld (shf:=ak) x.procs rfl ?_);rw [E];have b6:Int.tmod (yw (((a:Nat):Int)+1)) (((K.own i).len:Nat):Int)=((a+1:Nat):Int)%((dK K.c i).length:Int):=by rw [wrap64 (by omega) (by omega),Int.tmod_eq_emod_of_nonneg (by omega),J];congr 1
     rw [b6];refine ⟨by omega,?_⟩;have T:ik K.c d i=some a:=by
      have:=WK (c:=K.c) (s:=d) (i:=i) (t:=j.toNat) (by omega) R (by grind)
      rwa [ha] at this
     obtain ⟨h6,f,e4,e5,l6,V,c5,c6⟩:=y.sx n;refine aP (c5.st (⟨f.procs,((a+1:Nat):Int)%((dK K.c i).length:Int),f.log,f.lost,f.forbidden,f.an,f.dI⟩:bg) (by show 1+1<=7;omega) rfl λX N=> ?_);have o4:=c6 (⟨f.procs,((a+1:Nat):Int)%((dK K.c i).length:Int),f.log,f.lost,f.forbidden,f.an,f.dI⟩:bg) {d.part i with ae:=((a+1:Nat):Int)%((dK K.c i).length:Int)} _ ⟨V.1,rfl,V.2.2⟩ rfl rfl rfl rfl N;have w:=F.part i n;have gc:Good K.c (gY K.c) (d.cX i {d.part i with ae:=((a+1:Nat):Int)%((dK K.c i).length:Int)}) No No (s.tick+1):=by refine F.parts ⟨⟨Int.emod_nonneg _ (by omega),λ_=>Int.emod_lt_of_pos _ (by omega)⟩,w.jH,w.log,w.lost,w.kJ,w.full,w.gJ,w.iz⟩ rfl rfl
     obtain ⟨c3,c4⟩:=gc.Bl (p:=q) M;have gt:=F.Bz (D:=fF) l n (by rw [O]) T;have d6:(ji K.c fF (gY K.c) d i a).tick=d.tick:=Ey;have b3:ji K.c fF (gY K.c) d i a=sb K.c fF (gY K.c) (d.cX i {d.part i with ae:=((a+1:Nat):Int)%((dK K.c i).length:Int)}) q:=by unfold ji;rw [c2]
     refine zua (WI tk m l o4 (gc.pK l) G (by show 0<=d.tick/\d.tick<=_;rw [O];omega) (gc.proc q G).br c3 (c4 _ (by rw [c1];exact n)) (c8.cF rfl) λd5 k5 o5 a8=> ?_);rw [<-b3] at o5 a8;rw [wrap64 (by omega) (by omega)];refine ⟨⟨by omega,by omega,_,d5,o5,a8,gt,by omega,?_⟩,by omega⟩;rw [<-A];exact (Ot T).symm
    ·rw [if_neg (by simpa using M),wrap64 (by omega) (by omega)];grind
   ·rw [if_neg (λe=>hj (by have:=of_decide_eq_true e;omega))];have c0:=WL (c:=K.c) (s:=d) (i:=i) λB b8=>R B (by omega);have e2:kQ K.c fF (gY K.c) i ((K.c.fuel-(t+1)).toNat+1) d=d:=by unfold kQ;rw [c0]
    grind
  ·rw [if_neg (λe=>h (of_decide_eq_true e))];have e0:(K.c.fuel-t).toNat=0:=by omega
   rw [e0] at A;have A:d=_:=A;grind
 ·rintro W ⟨d4,Z,d1⟩;rw [H] at d2;generalize kQ K.c fF (gY K.c) i K.c.fuel.toNat s1=s2 at*;refine aP (Z.eB.ld (shf:=ab .i64) s2.tick rfl ?_);obtain ⟨h7,l7,o7,_,c7⟩:=Z.fst;rw [wrap64 (by omega) (by omega)];refine aP (o7.st (qC K.x (s2.tick+1)) (by show 9+1<=12;omega) rfl λX N=> ?_);exact P d4 X (c7 _ _ N) d1
end
section
variable {c:aV} {fl:Nat->Nat->Bool} {s:MS} {T:Int}
theorem ja {i:Nat} {x:cY}:(s.list c).parts[i]? =some x↔i<nP c/\x=s.part i:=by
 show ((List.range (nP c)).map s.part)[i]? =some x↔_;rw [List.getElem?_map];by_cases h:i<nP c
 ·rw [List.getElem?_range h];constructor
  ·intro e;exact ⟨h,(Option.some.inj e).symm⟩
  ·rintro ⟨_,rfl⟩;rfl
 ·rw [List.getElem?_eq_none (by rw [List.length_range];omega)];constructor
  ·intro e;cases e
  ·intro e;exact absurd e.1 h
theorem hH {i:Nat} {x:ai}:(s.list c).procs[i]? =some x↔i<nQ c/\x=s.proc i:=by
 show ((List.range (nQ c)).map s.proc)[i]? =some x↔_;rw [List.getElem?_map];by_cases h:i<nQ c
 ·rw [List.getElem?_range h];constructor
  ·intro e;exact ⟨h,(Option.some.inj e).symm⟩
  ·rintro ⟨_,rfl⟩;rfl
 ·rw [List.getElem?_eq_none (by rw [List.length_range];omega)];constructor
  ·intro e;cases e
  ·intro e;exact absurd e.1 h
theorem tQ (m:cg c) {p:Nat} (hp:p<nQ c):∃y,c.procs[p]? =some y/\y.part=(ax c p:Int)/\y.code=gz c p:=by
 have h:=List.getElem?_eq_getElem (show p<c.procs.length from hp);refine ⟨_,h,?_,?_⟩
 ·have:=m.part _ (List.mem_of_getElem? h);unfold ax;rw [h];simp;omega
 ·unfold gz;rw [h];rfl
theorem vC {y:iX} {p:Nat} {x:ai} (h:y.code=gz c p):qk y x.pc=dF c p x:=by unfold qk dF gG;rw [h]
theorem tU (m:cg c) {p:Int} {i:Nat}:EE c p i↔0<=p/\p.toNat<nQ c/\ax c p.toNat=i:=by
 unfold EE;constructor
 ·rintro ⟨d,y,b,f⟩;have hp:p.toNat<nQ c:=(List.getElem?_eq_some_iff.1 b).1;obtain ⟨g,a,e,_⟩:=tQ m hp;rw [b] at a;cases a;exact ⟨d,hp,by omega⟩
 ·rintro ⟨d,b,f⟩;obtain ⟨g,a,e,_⟩:=tQ m b;exact ⟨d,g,a,by rw [e,f]⟩
theorem I1 (m:cg c) {i:Nat}:uG c i=(dK c i).length:=by
 have e:c.procs=(List.range c.procs.length).map λq=>c.procs.getD q ⟨0,[]⟩:=by
  refine List.ext_getElem? λj=> ?_;rw [List.getElem?_map];by_cases h:j<c.procs.length
  ·rw [List.getElem?_range h,List.getElem?_eq_getElem h];simp [List.getD,List.getElem?_eq_getElem h]
  ·rw [List.getElem?_eq_none (by omega),List.getElem?_eq_none (by rw [List.length_range];omega)];rfl
 unfold uG dK;rw [e,List.filter_map,List.length_map];congr 1;refine List.filter_congr λq a=> ?_;have a:q<nQ c:=List.mem_range.1 a;obtain ⟨y,b,d,_⟩:=tQ m a;have f:c.procs.getD q ⟨0,[]⟩=y:=by simp [List.getD,b]
 show decide ((c.procs.getD q ⟨0,[]⟩).part=(i:Int))=decide (ax c q=i);rw [f,d];by_cases h:ax c q=i
 ·rw [decide_eq_true h,decide_eq_true (by omega)]
 ·rw [decide_eq_false h,decide_eq_false (by omega)]
theorem JG (m:cg c) {i:Nat} {st:fz} (j:st.tick=T):∀ {l:List pN} {last:Int},l.Pairwise (λa b=>a.tick<=b.tick)->(∀e∈l,last<=e.tick/\e.tick<T/\0<=e.proc/\e.proc.toNat<nQ c/\ax c e.proc.toNat=i)->wi c st i last l
 | [],_,_,_=>trivial
 | e::r,last,h,g=>by obtain ⟨k,n⟩:=List.pairwise_cons.1 h;obtain ⟨a1,a2,a3⟩:=g e (List.mem_cons_self ..);refine ⟨a1,by rw [j];exact a2,(tU m).2 a3,JG m j n λd f=>⟨k d f,(g d (List.mem_cons_of_mem _ f)).2⟩⟩
theorem Lj {l:List Int} {z:Int} (nd:l.Nodup) (h:z∈l):l.countP (λy=>decide (y=z))=1:=by
 induction l with
 | nil=>cases h
 | cons a l d=>
  rw [List.nodup_cons] at nd;rw [List.countP_cons];rcases List.mem_cons.1 h with rfl | h
  ·have:l.countP (λy=>decide (y=z))=0:=by rw [List.countP_eq_zero];intro y b;simp;exact λe=>nd.1 (e▸b)
   rw [this];simp
  ·rw [d nd.2 h];have:a≠z:=λe=>nd.1 (e▸h);simp [this]
theorem EW {l:List Int} {z:Int} (h:z∉l):l.countP (λy=>decide (y=z))=0:=by rw [List.countP_eq_zero];intro y a;simp;exact λe=>h (e▸a)
theorem DM {p:Int} {x:cY} (h:∀q∈x.al,p∉q):mq p x=0:=by unfold mq;rw [List.sum_eq_zero_iff_forall_eq_nat];intro y b;obtain ⟨q,a,rfl⟩:=List.mem_map.1 b;exact EW (h q a)
theorem vD {p:Int} {l:bq}:uq p l=(l.waiters.map (·.proc)).countP λy=>decide (y=p):=by unfold uq;rw [List.countP_map];rfl
theorem DN {p:Int} {x:ai} (h:∀l∈x.af,∀w∈l.waiters,w.proc≠p):mo p x=0:=by unfold mo;rw [List.sum_eq_zero_iff_forall_eq_nat];intro y f;obtain ⟨l,a,rfl⟩:=List.mem_map.1 f;rw [vD];refine EW λb=> ?_;obtain ⟨w,d,e⟩:=List.mem_map.1 b;exact h l a w d e
end
section
variable {c:aV} {fl:Nat->Nat->Bool} {s:MS} {T:Int}
theorem Lk {i:Nat} (h:i<nP c):(s.list c).parts[i]? =some (s.part i):=ja.2 ⟨h,rfl⟩
theorem xF {i:Nat} (h:i<nQ c):(s.list c).procs[i]? =some (s.proc i):=hH.2 ⟨h,rfl⟩
theorem Yu {p:Int} (h:p.toNat<nQ c) {q:ai->Prop} (a:q (s.proc p.toNat)):M7 (s.list c) p q:=⟨_,xF h,a⟩
theorem yA (m:cg c) {p:Int} (h:p.toNat<nQ c) {n:dP} (d:dF c p.toNat (s.proc p.toNat)=some n) {q:ai->dP->Prop} (e:q (s.proc p.toNat) n):Lv c (s.list c) p q:=by obtain ⟨y,a,f,b⟩:=tQ m h;exact ⟨_,y,n,xF h,a,by rw [vC b];exact d,e⟩
theorem I3 {r:List Int} {i v:Int} (d:r.length=8) (b:0<=i/\i<8) (h:ft r i=v):r[i.toNat]? =some v:=by
 have a:i.toNat<r.length:=by omega
 rw [List.getElem?_eq_getElem a,<-h];unfold ft;grind
theorem Good.waits (m:cg c) (g:Good c fl s No No T):Jr c (s.list c):=by
 refine ⟨λi x a k q hq p hp=> ?_,λr x y a M i l hl w Y=> ?_,λp x a=> ?_⟩
 ·obtain ⟨z,rfl⟩:=ja.1 a;obtain ⟨b1,R,S⟩:=g.iy i z k q hq;obtain ⟨a1,a2,a3,_,a5⟩:=R p hp;obtain ⟨a5,n,a6,a7,E⟩:=a5.resolve_left (λh=>h);obtain ⟨o,t,u,O⟩:=S (List.ne_nil_of_mem hp);refine ⟨(tU m).2 ⟨a1,a2,a3⟩,yA m a2 a6 ⟨a5,E⟩,o,t,?_,λe=>O (e▸hp)⟩;rcases g.own i z k o t with h | h
  ·exact absurd h u
  ·exact h.1
 ·obtain ⟨G,rfl⟩:=hH.1 a;obtain ⟨y',f1,f2,f3⟩:=tQ m G;rw [M] at f1;cases f1;obtain ⟨b1,R,S⟩:=g.dJ r G i l hl;obtain ⟨c1,c2,c3⟩:=R (List.ne_nil_of_mem Y);obtain ⟨a1,a2,a3,_,a5⟩:=S w Y;obtain ⟨a5,n,a6,a7,E,a9⟩:=a5.resolve_left (λh=>h);have b0:=cZ.1 (c2.resolve_right (λh=>h));have X:=(g.proc _ a2).br;have Z:=PB (m.ins a6).1 a7;exact ⟨by rw [f2,c1],(tU m).2 ⟨a1,a2,a3⟩,b0,c3,yA m a2 a6 ⟨a5,a7,I3 X Z.2.1 E,I3 X Z.2.2 a9⟩⟩
 ·obtain ⟨hp,rfl⟩:=hH.1 a;have b4:((s.list c).parts.map (mq (p:Int))).sum=if (s.proc p).state=3 then 1 else 0:=by
   by_cases Q:(s.proc p).state=3
   ·rw [if_pos Q];obtain ⟨k,q,t,u⟩:=g.rj p hp (λh=>h) Q;have z:=m.eR (p:=p);rw [vi (mq (p:Int)) _ (ax c p) λj x a J=> ?_,Lk z]
    ·show mq (p:Int) (s.part (ax c p))=1;unfold mq;rw [vi _ _ k λj D K J=> ?_,t]
     ·exact Lj (g.iy _ z k q t).1 u
     ·refine EW λB=> ?_;obtain ⟨_,_,_,_,a5⟩:=(g.iy _ z j D K).2.1 _ B;obtain ⟨_,n1,a6,_,E⟩:=a5.resolve_left (λh=>h);obtain ⟨_,_,_,_,U⟩:=(g.iy _ z k q t).2.1 _ u;obtain ⟨_,n2,F,_,W⟩:=U.resolve_left (λh=>h);rw [a6] at F;cases F;omega
    ·obtain ⟨d,rfl⟩:=ja.1 a;refine DM λD K B=> ?_;obtain ⟨f,A,b⟩:=List.getElem_of_mem K;have v:(s.part j).al[f]? =some D:=by rw [List.getElem?_eq_getElem A,b]
     have:=((g.iy j d f D v).2.1 _ B).2.2.1;rw [Int.toNat_natCast] at this;exact J this.symm
   ·rw [if_neg Q,List.sum_eq_zero_iff_forall_eq_nat];intro y M;obtain ⟨x,a,rfl⟩:=List.mem_map.1 M;obtain ⟨j,d,b⟩:=List.getElem_of_mem a;have V:(s.list c).parts[j]? =some x:=by rw [List.getElem?_eq_getElem d,b]
    obtain ⟨d,rfl⟩:=ja.1 V;refine DM λD K B=> ?_;obtain ⟨f,A,b⟩:=List.getElem_of_mem K;have v:(s.part j).al[f]? =some D:=by rw [List.getElem?_eq_getElem A,b]
    obtain ⟨_,_,_,_,a5⟩:=(g.iy j d f D v).2.1 _ B;have:=(a5.resolve_left (λh=>h)).1;rw [Int.toNat_natCast] at this;exact Q this
  have b7:((s.list c).procs.map (mo (p:Int))).sum=if (s.proc p).state=2 then 1 else 0:=by
   by_cases P:(s.proc p).state=2
   ·rw [if_pos P];obtain ⟨r,G,l,t,w,u,O⟩:=g.ri p hp (λh=>h) P;obtain ⟨d1,d2,d3⟩:=g.dJ r G _ l t;obtain ⟨_,_,_,_,U⟩:=d3 w u;obtain ⟨_,n2,F,_,W,_⟩:=U.resolve_left (λh=>h);rw [O,Int.toNat_natCast] at F W;rw [vi (mo (p:Int)) _ r λj x a J=> ?_,xF G]
    ·show mo (p:Int) (s.proc r)=1;unfold mo;rw [vi _ _ (ax c p) λj C I J=> ?_,t]
     ·show uq (p:Int) l=1;rw [vD];exact Lj d1 (List.mem_map.2 ⟨w,u,O⟩)
     ·rw [vD];refine EW λB=> ?_;obtain ⟨N,L,H⟩:=List.mem_map.1 B;have:=((g.dJ r G j C I).2.2 N L).2.2.1;rw [H,Int.toNat_natCast] at this;exact J this.symm
    ·obtain ⟨d,rfl⟩:=hH.1 a;refine DN λC I N L H=> ?_;obtain ⟨f,A,b⟩:=List.getElem_of_mem I;have v:(s.proc j).af[f]? =some C:=by rw [List.getElem?_eq_getElem A,b]
     obtain ⟨_,_,_,_,a5⟩:=(g.dJ j d f C v).2.2 N L;obtain ⟨_,n1,a6,_,E,_⟩:=a5.resolve_left (λh=>h);rw [H,Int.toNat_natCast] at a6 E;rw [a6] at F;cases F;omega
   ·rw [if_neg P,List.sum_eq_zero_iff_forall_eq_nat];intro y M;obtain ⟨x,a,rfl⟩:=List.mem_map.1 M;obtain ⟨j,d,b⟩:=List.getElem_of_mem a;have V:(s.list c).procs[j]? =some x:=by rw [List.getElem?_eq_getElem d,b]
    obtain ⟨d,rfl⟩:=hH.1 V;refine DN λC I N L H=> ?_;obtain ⟨f,A,b⟩:=List.getElem_of_mem I;have v:(s.proc j).af[f]? =some C:=by rw [List.getElem?_eq_getElem A,b]
    obtain ⟨_,_,_,_,a5⟩:=(g.dJ j d f C v).2.2 N L;have:=(a5.resolve_left (λh=>h)).1;rw [H,Int.toNat_natCast] at this;exact P this
  grind
theorem Good.may (m:cg c) (g:Good c fl s No No s.tick) (q:s.tick<=4611686018427387904):tZ c (s.list c) λi y=>fl i y.toNat=true:=by
 refine ⟨⟨⟨g.tick,q⟩,?_,?_⟩,λi x d=> ?_,λp x y d t=> ?_,g.waits m⟩
 ·show ((List.range (nP c)).map s.part).length=_;rw [List.length_map,List.length_range];rfl
 ·show ((List.range (nQ c)).map s.proc).length=_;rw [List.length_map,List.length_range];rfl
 ·obtain ⟨b,rfl⟩:=ja.1 d;have pm:=g.part i b;refine ⟨⟨pm.cur.1,by rw [I1 m];exact pm.cur.2,pm.jH⟩,JG m rfl pm.log.1 λe f=>pm.log.2 e f,pm.lost,pm.kJ,pm.full,pm.gJ,pm.iz,λp hp o=> ?_⟩;obtain ⟨k,u,f⟩:=List.getElem_of_mem hp;have j:(s.part i).az[k]? =some p:=by grind
  rcases g.own i b k p j with h | ⟨a1,a2,a3,a4⟩
  ·exact absurd h o
  ·exact ⟨(tU m).2 ⟨a1,a2,a3⟩,Yu a2 (cZ.1 (a4.resolve_right (λh=>h)))⟩
 ·obtain ⟨hp,rfl⟩:=hH.1 d;obtain ⟨v,f1,f2,f3⟩:=tQ m hp;rw [t] at f1;cases f1;have pm:=g.proc p hp;have a:qk y (s.proc p).pc=dF c p (s.proc p):=vC f3;refine ⟨pm.st,by rw [f3];exact pm.pc,pm.lr,pm.cur,pm.mG,pm.mH,pm.ns.resolve_left (λh=>h),λh=>⟨(pm.dead h).1.resolve_left (λh=>h),(pm.dead h).2⟩,λi l n=> ?_,λh=> ?_,λh=> ?_,λh=> ?_,λh=> ?_⟩
  ·obtain ⟨a1,a2,a3,a4⟩:=pm.dJ i l n;refine ⟨a1,a2,a3,λr b=> ?_⟩;rw [f2];show fl i ((ax c p:Nat):Int).toNat=true;rw [Int.toNat_natCast];exact a4 r b
  ·rw [a];exact pm.recv h
  ·rw [a];exact pm.snd h
  ·rw [a];exact pm.pD h
  ·rw [a];exact pm.jh h
end
abbrev wj (l:Sl) (a:List cY):dB:=jl (bM.ok (sh:=aY) (sz:=6) vM) l a
abbrev ui (l:Sl) (a:List ai):dB:=jl (bM.ok (sh:=aE) (sz:=15) vc) l a
section
variable {h0 h1 k:Hp} {K:MK} {pm:Addr} {s:MS} {g:Nat->Nat->Int}
def toE (e:pN):cU:=⟨e.tick,e.proc,e.value⟩
theorem aaq {i:Nat} {Ps:Sl} {ps:List cY} {rest:Sl->Hp->Prop} (mc:cg K.c) (o:Has h0 ((aD K pm s g).star (wj Ps ps)) k) (sa:jr K.c s) (I:i<nP K.c) (c5:ps.length<=1000)
  (hk:∀z j,Has h0 ((aD K pm s g).star (wj z (ps++ [s.part i]))) j->rest z j):
 ag none (some (K.q i)) λp2=>
 aN none aj k (Addr.add p2 5) λx3=>
 bI prog LP [(.pointer x3)] ak ak (λr N l=>
 ag none (some (K.q i)) λp3=>
 aN none (ab .i64) l (Addr.add p3 1) λw=>
 ag none (some (K.q i)) λp4=>
 aN none ak l (Addr.add p4 2) λx5=>
 ag none (some (K.q i)) λp5=>
 aN none (ab .i64) l (Addr.add p5 3) λx6=>
 ag none (some (K.q i)) λp6=>
 aN none (ab .i64) l (Addr.add p6 4) λx7=>
 aa prog EG [x5.v] ak (λr2 m=>
 ((True/\((bp m (Addr.add p3 1) [(.int .i64 w)])/\((bp m (Addr.add p5 3) [(.int .i64 x6)])/\((bp m (Addr.add p6 4) [(.int .i64 x7)])/\True))))/\bD [(.int .i64 w),r2.v,(.int .i64 x6),(.int .i64 x7),r.v,N.v] (λa G=>
 ((True/\True)/\fR 6 96 [(.int .i64 (0:Int)),(.slice none 0 0),(.int .i64 (0:Int)),(.int .i64 (0:Int)),(.slice none 0 0),(.slice none 0 0)] ⟨Ps.base,Ps.len,Ps.cap⟩ ⟨(some a),1,1⟩ (λO h5=>
 rest O h5) G)) m)) l) k:=by
  have A:=sa.part i I;obtain ⟨V,lA,oM,_,fU⟩:=o.fst;obtain ⟨m,w,b0,c8,l4,a9,b8,ol,c1⟩:=oM.qt I;have el:w.an=some b0:=a9.2.2.2.2.1;refine aP (b8.ld (shf:=aj) w.an rfl ?_);rw [el];refine zze (Rc ol ⟨by have:=A.kf.1;omega,A.kf.2⟩ A.gJ λP Q W o2=> ?_);have Y:Has V ((aD K pm s g).star ((sZ P (s.part i).az).star (wo Q (s.part i).al))) W:=o2.carry λj L=>by
   have G:=c1 _ _ j L;have e:s.cX i {s.part i with az:=(s.part i).az,al:=(s.part i).al}=s:=DK
   rwa [e] at G
  obtain ⟨hB,lB,b5,⟨F3,c3,c2⟩,c7⟩:=Y.fst;obtain ⟨h6,x,lp,wp,l6,J,u,b7,_⟩:=b5.FF I;refine aP (u.ld (shf:=ab .i64) x.ae rfl ?_);refine aP (u.ld (shf:=ak) x.log rfl ?_);refine aP (u.ld (shf:=ab .i64) x.lost rfl ?_);refine aP (u.ld (shf:=ab .i64) x.forbidden rfl ?_);refine Ol ?_;unfold LI;have c4:=A.jH;refine qN (ah.aH 112 qE rfl) (b7.iq (λ_=>rfl)) (by decide) (λ_=>rfl) (λ_=>rfl) rfl ⟨by omega,by omega⟩ λR X a8 n3=> ?_;have M:=u.grow a8;refine ⟨⟨trivial,M.eA (n:=1) rfl,M.eA (n:=1) rfl,M.eA (n:=1) rfl,trivial⟩,?_⟩;have b1:Has W (jl (bM.ok (sh:=cR) (sz:=3) (fy.ok λx p=>qJ x=p)) R (s.part i).log) X:=n3.jf (f:=toE) (λ_=>rfl) λ_=>rfl;have Z:=Y.beside b1;have b6:Has V ((aD K pm s g).star (jl vM (⟨x.ae,R,x.lost,x.forbidden,P,Q⟩:bx) (s.part i))) X:=by
   obtain ⟨hC,lC,c6,_,_⟩:=Z.assoc.fst;refine Z.assoc.map λkk F hF=> ?_;refine AP (λ_ h=>h) (λF' h=> ?_) hF;obtain ⟨F1,F2,e,d,⟨F4,F5,B,d',⟨T,r2,b3,D⟩,⟨U,O,b4,E⟩⟩,⟨S,N,b2,C⟩⟩:=h;refine ⟨S++(T++U),⟨S,T,U,rfl,N,r2,O,J.2.1,J.2.2.1,J.2.2.2.1⟩,?_,λb=> ?_⟩
   ·rw [List.nodup_append,List.nodup_append];refine ⟨b2,⟨b3,b4,λa y b hb H=> ?_⟩,λa y b hb H=> ?_⟩
    ·subst H;exact d' a ((D a).2 y) ((E a).2 hb)
    ·subst H;rcases List.mem_append.1 hb with hb | hb
     ·exact d a ((B a).2 (.inl ((D a).2 hb))) ((C a).2 y)
     ·exact d a ((B a).2 (.inr ((E a).2 hb))) ((C a).2 y)
   ·rw [e b,B b,C b,D b,E b,List.mem_append,List.mem_append];constructor
    ·rintro ((h | h) | h)
     ·exact .inr (.inl h)
     ·exact .inr (.inr h)
     ·exact .inl h
    ·rintro (h | h | h)
     ·exact .inr h
     ·exact .inl (.inl h)
     ·exact .inl (.inr h)
  have oF:=(fU _ _ b6).assoc;obtain ⟨hD,lD,oD,_,c0⟩:=oF.snd;have key:=oD.comm.row (cs:=[(.int .i64 x.ae),R.v,(.int .i64 x.lost),(.int .i64 x.forbidden),P.v,Q.v]) (zero:=[(.int .i64 (0:Int)),(.slice none 0 0),(.int .i64 (0:Int)),(.int .i64 (0:Int)),(.slice none 0 0),(.slice none 0 0)]) (bytes:=96) rfl (λ_=>rfl) (λ_=>rfl) rfl ⟨by omega,by omega⟩ (K:=rest) λz j L=>hk z j (c0 _ _ L);exact λb t hb=>⟨⟨trivial,trivial⟩,key b t hb⟩
theorem aar {c:aV} {p:Nat} (hp:p<nQ c):mL c s (ax c p) (2*p)=(s.proc p).timer:=by unfold mL;grind
theorem Ov {c:aV} {p:Nat} (hp:p<nQ c):mL c s (ax c p) (2*p+1)=(s.proc p).cn:=by unfold mL;grind
theorem aas {p:Nat} {Ps:Sl} {ps:List ai} {rest:Sl->Hp->Prop} (m:dh h0 K) (R:cg K.c) (o:Has h0 ((aD K pm s g).star (ui Ps ps)) k) (sa:jr K.c s) (td:dt K.c g s) (hp:p<nQ K.c) (c8:ps.length<=1000)
  (hk:∀M y,Has h0 ((aD K pm s g).star (ui M (ps++ [s.proc p]))) y->rest M y):
 ag none (some (K.p p)) λp3=>
 aN none aj k (Addr.add p3 14) λx4=>
 bI prog LX [(.pointer x4)] ak (ab .i64) (λr r1 C=>
 ag none (some pm) λp4=>
 aN none ak C (Addr.add p4 10) λG=>
 ag none (some (K.p p)) λp5=>
 aN none (ab .i64) C (Addr.add p5 1) λP=>
 ((bB G.base G.len P)/\aN none aj C (sat G.base 1 P) λA=>
 ag none A λp6=>
 aN none aj C (Addr.add p6 6) λx8=>
 aa prog vY [(.int .i64 (p:Int))] (ab .i64) (λr2 i=>
 (((bp i (Addr.add p4 10) [G.v])/\((bp i (Addr.add p5 1) [(.int .i64 P)])/\((bp i (sat G.base 1 P) [(.pointer A)])/\((bp i (Addr.add p6 6) [(.pointer x8)])/\True))))/\bI prog EJ [(.pointer x8),(.int .i64 r2)] (ab .i64) aQ (λr3 r4 D=>
 ag none (some pm) λp7=>
 aN none ak D (Addr.add p7 10) λH=>
 ag none (some (K.p p)) λp8=>
 aN none (ab .i64) D (Addr.add p8 1) λO=>
 ((bB H.base H.len O)/\aN none aj D (sat H.base 1 O) λa8=>
 ag none a8 λp9=>
 aN none aj D (Addr.add p9 6) λa9=>
 aa prog xc [(.int .i64 (p:Int))] (ab .i64) (λr5 E=>
 (((bp E (Addr.add p7 10) [H.v])/\((bp E (Addr.add p8 1) [(.int .i64 O)])/\((bp E (sat H.base 1 O) [(.pointer a8)])/\((bp E (Addr.add p9 6) [(.pointer a9)])/\True))))/\bI prog EJ [(.pointer a9),(.int .i64 r5)] (ab .i64) aQ (λr6 r7 w=>
 ag none (some (K.p p)) λb5=>
 aN none (ab .i64) w (Addr.add b5 3) λc2=>
 ag none (some (K.p p)) λb6=>
 aN none (ab .i64) w (Addr.add (Addr.add b6 4) 0) λc3=>
 ag none (some (K.p p)) λb7=>
 aN none vZ w (Addr.add (Addr.add b7 4) 1) λf=>
 ag none (some (K.p p)) λb8=>
 aN none aQ w (Addr.add b8 13) λc4=>
 bD [(.int .i64 c2),(.int .i64 c3),(.int .i64 f.a0),(.int .i64 f.a1),(.int .i64 f.a2),(.int .i64 f.a3),(.int .i64 f.a4),(.int .i64 f.a5),(.int .i64 f.a6),(.int .i64 f.a7),(.int .i64 r1),(.int .i64 r3),(.bool c4),(.int .i64 r6),r.v] (λa h8=>
 ((True/\True)/\fR 15 136 [(.int .i64 (0:Int)),(.int .i64 (0:Int)),(.int .i64 (0:Int)),(.int .i64 (0:Int)),(.int .i64 (0:Int)),(.int .i64 (0:Int)),(.int .i64 (0:Int)),(.int .i64 (0:Int)),(.int .i64 (0:Int)),(.int .i64 (0:Int)),(.int .i64 (0:Int)),(.int .i64 (0:Int)),(.bool false),(.int .i64 (0:Int)),(.slice none 0 0)] ⟨Ps.base,Ps.len,Ps.cap⟩ ⟨(some a),1,1⟩ (λr8 h9=>
 rest r8 h9) h8)) w) E)) D)) i)) C)) k:=by
  have J:ax K.c p<nP K.c:=R.eR;have c7:=R.procs;have c6:=R.parts;have sp:=sa.proc p hp;have c5:=sp.len;obtain ⟨Y,lA,oM,_,fU⟩:=o.fst;obtain ⟨h1,z,a,l1,hz,oz,oq,put⟩:=oM.nl hp;have b0:z.post=some a:=hz.2.2.2.2.2.2;refine aP (oz.ld (shf:=aj) z.post rfl ?_);rw [b0];refine Oo (TM oq ⟨by omega,λl Z=>⟨(sp.dJ l Z).waiters,by have:=(sp.dJ l Z).values;omega⟩⟩ λT k2 o2=> ?_);have o3:Has Y ((aD K pm s g).star (tY T (s.proc p).af)) k2:=o2.carry λy S=>by
   have i:=put _ _ y S;have e:s.aG p {s.proc p with af:=(s.proc p).af,ae:=(s.proc p).ae}=s:=Lc
   rwa [e] at i
  obtain ⟨hB,lB,j,_,_⟩:=o3.fst;have mB:=m.mono (Hp.le_trans lA lB);obtain ⟨h2,d,a2,l2,L,u,_⟩:=j.dk hp;obtain ⟨X,I⟩:=mB.tg j J;obtain ⟨w,A,d0,c1,l7,b3,N,ow,_⟩:=j.iH J;have W:A.dI=some c1:=b3.2.2.2.2.2;have V:d.part=(ax K.c p:Int):=L.2.1;refine aP (j.eB.ld (shf:=ak) K.x.parts rfl ?_);refine aP (u.ld (shf:=ab .i64) d.part rfl ?_);have Q:=u.eA (off:=1) (n:=1) (vs:=[.int .i64 d.part]) rfl;rw [V] at Q ⊢;refine ⟨X,some (K.q (ax K.c p)),I,?_⟩;refine aP (N.ld (shf:=aj) A.dI rfl ?_);refine HE (xZ (by omega) ?_);refine ⟨⟨j.eB.eA (n:=1) rfl,Q,I,N.eA (n:=1) rfl,trivial⟩,?_⟩;rw [W];refine zpz (Hw ow λb1=> ?_);refine aP (j.eB.ld (shf:=ak) K.x.parts rfl ?_);refine aP (u.ld (shf:=ab .i64) d.part rfl ?_);rw [V];refine ⟨X,some (K.q (ax K.c p)),I,?_⟩;refine aP (N.ld (shf:=aj) A.dI rfl ?_);refine HH (ya (by omega) ?_);refine ⟨⟨j.eB.eA (n:=1) rfl,Q,I,N.eA (n:=1) rfl,trivial⟩,?_⟩;rw [W];refine zpz (Hw ow λb2=> ?_);rw [td _ _ J,td _ _ J,aar hp,Ov hp];refine aP (u.ld (shf:=ab .i64) d.state rfl (aP ?_));rw [sO];refine u.ld (shf:=ab .i64) d.iD rfl (aP ?_);rw [sO];refine u.ld (shf:=vZ) (rowOf (dT d)) rfl (aP ?_);refine u.ld (shf:=aQ) d.bF rfl ?_;have U:fT (dT d)=(s.proc p).core:=L.2.2.2.2.1;have b4:Has Y ((aD K pm s g).star (jl vc (⟨d.state,d.iD,d.fh,d.fi,d.fj,d.fk,d.fm,d.fo,d.fp,d.fq,(s.proc p).ae,(s.proc p).timer,d.bF,(s.proc p).cn,T⟩:aR) (s.proc p))) k2:=by refine o3.map λkk F hF=> ?_;refine AP (λ_ h=>h) (λF' h=> ?_) hF;obtain ⟨B,r,nd,e⟩:=h;exact ⟨B,⟨r,L.2.2.2.1,congrArg Core.pc U,congrArg Core.br U,rfl,rfl,L.2.2.2.2.2.1,rfl⟩,nd,e⟩
  have oF:=(fU _ _ b4).assoc;obtain ⟨hD,lD,oD,_,c0⟩:=oF.snd;have key:=oD.comm.row (cs:=[(.int .i64 d.state),(.int .i64 d.iD),(.int .i64 d.fh),(.int .i64 d.fi),(.int .i64 d.fj),(.int .i64 d.fk),(.int .i64 d.fm),(.int .i64 d.fo),(.int .i64 d.fp),(.int .i64 d.fq),(.int .i64 (s.proc p).ae),(.int .i64 (s.proc p).timer),(.bool d.bF),(.int .i64 (s.proc p).cn),T.v]) (zero:=[(.int .i64 (0:Int)),(.int .i64 (0:Int)),(.int .i64 (0:Int)),(.int .i64 (0:Int)),(.int .i64 (0:Int)),(.int .i64 (0:Int)),(.int .i64 (0:Int)),(.int .i64 (0:Int)),(.int .i64 (0:Int)),(.int .i64 (0:Int)),(.int .i64 (0:Int)),(.int .i64 (0:Int)),(.bool false),(.int .i64 (0:Int)),(.slice none 0 0)]) (bytes:=136) rfl (λ_=>rfl) (λ_=>rfl) rfl ⟨by omega,by omega⟩ (K:=rest) λM y S=>hk M y (c0 _ _ S);exact λb t hb=>⟨⟨trivial,trivial⟩,key b t hb⟩
end
section
variable {h0 h1 k:Hp} {K:MK} {pm:Addr} {s:MS} {g:Nat->Nat->Int}
theorem Kh {a:Type} {f:Nat->a} {t:Int} (h:0<=t):(List.range (t+1).toNat).map f=(List.range t.toNat).map f++ [f t.toNat]:=by rw [show (t+1).toNat=t.toNat+1 by omega,List.range_succ,List.map_append];rfl
theorem T9 {Q:aL->Hp->Prop} (m:dh h0 K) (v:cg K.c) (o:Has h0 (aD K pm s g) k) (P:jr K.c s) (td:dt K.c g s)
  (W:∀r f,Has h0 ((aD K pm s g).star (jl X3 r (s.list K.c))) f->Q r f):GA prog (some pm) Q k:=by
 unfold GA;have b5:=v.procs;have b3:=v.parts;have b4:=m.qv;have b6:=m.nm;refine aP (o.eB.ld (shf:=ab .i64) s.tick rfl ?_);refine aP (o.eB.ld (shf:=ak) K.x.parts rfl ?_);have b0:Has k (wj (⟨none,0,0⟩:Sl) ([]:List cY)) k:=Has.nc (okQ:=vM) (Hp.le_refl _);refine dC.intro (λ(t:Int) (st:aL) f=>0<=t/\t<=(nP K.c:Int)/\st.fE=s.tick/\st.aO=⟨none,0,0⟩/\Has h0 ((aD K pm s g).star (wj st.cq ((List.range t.toNat).map s.part))) f) (λt _ _=>(nP K.c-t).toNat) ⟨by omega,by omega,rfl,rfl,by simpa using o.beside b0⟩ ?_;rintro t st M ⟨t0,t1,I,G,w⟩;by_cases h:t<(nP K.c:Int)
 ·rw [if_pos (decide_eq_true (by omega))];have n:t.toNat<nP K.c:=by omega
  have z:((t.toNat:Nat):Int)=t:=by omega
  obtain ⟨i,l⟩:=m.tg (Has.left w) n;rw [z] at i l;refine ⟨i,some (K.q t.toNat),l,?_⟩;refine aaq (Ps:=st.cq) (ps:=(List.range t.toNat).map s.part) v w P n (by rw [List.length_map,List.length_range];omega) λZ f A=> ?_;rw [wrap64 (by omega) (by omega)];refine ⟨⟨by omega,by omega,I,G,?_⟩,by omega⟩;rw [Kh t0];exact A
 ·rw [if_neg (λe=>h (by have:=of_decide_eq_true e;omega))];have z:t.toNat=nP K.c:=by omega
  rw [z] at w;obtain ⟨L,lA,O,hP,b2⟩:=w.fst;have N:=m.mono lA;refine aP (O.eB.ld (shf:=ak) K.x.procs rfl ?_);have b1:Has M (ui (⟨none,0,0⟩:Sl) ([]:List ai)) M:=Has.nc (okQ:=vc) (Hp.le_refl _);refine dC.intro (λ(j:Int) (s1:aL) f=>0<=j/\j<=(nQ K.c:Int)/\s1.fE=s.tick/\s1.cq=st.cq/\Has L ((aD K pm s g).star (ui s1.aO ((List.range j.toNat).map s.proc))) f) (λj _ _=>(nQ K.c-j).toNat) ⟨by omega,by omega,I,rfl,by rw [G];simpa using O.beside b1⟩ ?_;rintro j s1 Y ⟨X,j1,J,H,y⟩;by_cases V:j<(nQ K.c:Int)
  ·rw [if_pos (decide_eq_true (by omega))];have n:j.toNat<nQ K.c:=by omega
   have u:((j.toNat:Nat):Int)=j:=by omega
   obtain ⟨i,l⟩:=N.ptr (Has.left y) n;rw [u] at i l;refine ⟨i,some (K.p j.toNat),l,?_⟩;have key:=aas (Ps:=s1.aO) (ps:=(List.range j.toNat).map s.proc) (rest:=λr8 R=>(0<=yw (j+1)/\yw (j+1)<=(nQ K.c:Int)/\s1.fE=s.tick/\s1.cq=st.cq/\Has L ((aD K pm s g).star (ui r8 ((List.range (yw (j+1)).toNat).map s.proc))) R)/\(nQ K.c-yw (j+1)).toNat<(nQ K.c-j).toNat) N v y P td n (by rw [List.length_map,List.length_range];omega) λZ f A=>by rw [wrap64 (by omega) (by omega)];refine ⟨⟨by omega,by omega,J,H,?_⟩,by omega⟩;rw [Kh X];exact A
   rw [u] at key;exact key
  ·rw [if_neg (λe=>V (by have:=of_decide_eq_true e;omega))];have u:j.toNat=nQ K.c:=by omega
   rw [u] at y;refine W s1 Y ?_;have o3:=(b2 _ _ y).assoc;refine o3.map λkk F S=> ?_;refine AP (λ_ h=>h) (λF' h=> ?_) S;obtain ⟨F1,F2,e,d,⟨C,r2,a9,E⟩,⟨B,r1,a8,D⟩⟩:=h;refine ⟨B++C,⟨B,C,rfl,by rw [H];exact r1,r2,J⟩,?_,λb=> ?_⟩
   ·rw [List.nodup_append];exact ⟨a8,a9,λa T b hb U=>by subst U;exact d a ((E a).2 hb) ((D a).2 T)⟩
   ·rw [e b,D b,E b,List.mem_append];exact ⟨λh=>h.symm,λh=>h.symm⟩
end
theorem wF {b c:Type} {R:b->c->Hp->List Nat->Prop} (ok:gV R):gV (nH R):=⟨λo a=>nH.same ok o a,λo=>nH.known ok o⟩
abbrev eQ :ba->List Value:=λx=>be (bA.enc x)
section
variable {α:Type} {h:Hp} {sz:Nat} {enc:α->List Value} {l:Sl} {xs:List α}
theorem WO {b o:Nat} {i:Int}:sat (some ⟨b,o,none⟩) sz i=⟨b,o+i.toNat*sz,none⟩:=by unfold sat;rw [Option.getD_some,jM]
theorem df.M5 {F:List Nat} (o:df h sz enc l xs F) (e:∀x,(enc x).length=sz) {i:Nat} {x d:α} (q:xs[i]? =some x) {off:Nat} {new:List Value} (M:off+new.length<=sz) (z:enc d=(enc x).take off++new++(enc x).drop (off+new.length))
  {K:Hp->Prop} (w:∀c,df c sz enc l (xs.set i d) F->Mv F h F c->K c):cD h ((sat l.base sz (i:Int)).add off) new K:=by
 have g:i<xs.length:=by grind
 obtain ⟨D,r,E⟩:=o;rcases E with ⟨_,H,_⟩ | ⟨b,a,j,rfl,B,u,f⟩
 ·omega
 ·rw [j,WO,jM,show ((i:Int)).toNat=i from rfl,Nat.zero_add];have J:i*sz+sz<=l.len*sz:=by have:=Nat.mul_le_mul_right sz (show i+1<=l.len by omega);grind
  have L:l.len*sz<=l.cap*sz:=Nat.mul_le_mul_right sz r;refine AV B (by rw [u];omega) λc C A=> ?_;refine w c ⟨by simp [D],r,.inr ⟨b,_,j,rfl,A,?_,?_⟩⟩ C
  ·grind
  ·have t1:a.take (i*sz)=(xs.take i).flatMap enc:=by rw [AO e,<-f,List.take_take];congr 1;omega
   have t2:(a.drop (i*sz+sz)).take (l.len*sz-(i*sz+sz))=(xs.drop (i+1)).flatMap enc:=by rw [xV e,<-f,Nat.add_mul,Nat.one_mul,List.drop_take]
   have G:(a.drop (i*sz)).take sz=enc x:=by
    have k:(xs.drop i).flatMap enc=enc x++(xs.drop (i+1)).flatMap enc:=by rw [List.drop_eq_getElem_cons g,List.flatMap_cons];rw [List.getElem?_eq_getElem g] at q;rw [Option.some.inj q]
    have v:(xs.drop i).flatMap enc=(a.drop (i*sz)).take (l.len*sz-i*sz):=by rw [xV e,<-f,List.drop_take]
    rw [v] at k;have I:=congrArg (List.take sz) k;grind
   have m:a=a.take (i*sz)++(enc x++a.drop (i*sz+sz)):=by rw [<-G,<-List.drop_drop,List.take_append_drop,List.take_append_drop]
   have n:(a.take (i*sz)).length=i*sz:=by rw [List.length_take];omega
   have p:(enc x).length=sz:=e x;have s:a.take (i*sz+off)=a.take (i*sz)++(enc x).take off:=by
    conv=>lhs;rw [m]
    rw [List.take_append,n,List.take_of_length_le (by omega),List.take_append,p,show i*sz+off-i*sz=off by omega,show off-sz=0 by omega,List.take_zero,List.append_nil]
   have t:a.drop (i*sz+off+new.length)=(enc x).drop (off+new.length)++a.drop (i*sz+sz):=by
    conv=>lhs;rw [m]
    rw [List.drop_append,n,List.drop_eq_nil_of_le (by omega),List.nil_append,List.drop_append,p,show i*sz+off+new.length-i*sz=off+new.length by omega,show off+new.length-sz=0 by omega,List.drop_zero]
   rw [s,t,show a.take (i*sz)++(enc x).take off++new++((enc x).drop (off+new.length)++a.drop (i*sz+sz))=(a.take (i*sz)++enc d)++a.drop (i*sz+sz) by rw [z];simp];rw [DE d g];have y:(a.take (i*sz)++enc d).length=i*sz+sz:=by grind
   rw [List.take_append,y,t2,List.take_of_length_le (by omega),t1];simp
end
section
variable {h0 k:Hp}
theorem Has.pH {d:Type} {sz:Nat} {enc:d->List Value} {l:Sl} {c:List d} (o:Has h0 (eM sz enc l c) k) (j:∀x,(enc x).length=sz) {i:Nat} {x x':d} (t:c[i]? =some x) {off:Nat} {new:List Value} (s:off+new.length<=sz) (r:enc x'=(enc x).take off++new++(enc x).drop (off+new.length))
  {K:Hp->Prop} (p:∀a,Has h0 (eM sz enc l (c.set i x')) a->K a):cD k ((sat l.base sz (i:Int)).add off) new K:=by
 obtain ⟨q,F,⟨B,h,e⟩,n⟩:=o;refine h.M5 j t s r λa g m=>p a ⟨λb f eb=>m.cF b f (q b f eb) λhb=> ?_,F,⟨B,g,e⟩,n⟩;grind
theorem Has.fJ {b:Type} {sz:Nat} {enc:b->List Value} {l:Sl} {a:List b} (o:Has h0 (eM sz enc l a) k) (c:∀x,(enc x).length=sz):Rw k sz enc l a:=by obtain ⟨f,F,⟨B,h,e⟩,d⟩:=o;exact h.rw c
theorem Has.rowsOf {m:Type} {sh:Shape} {sz:Nat} {Q:sh.T->m->Hp->List Nat->Prop} {okQ:gV Q} {l:Sl} {c:List sh.T} {j:List m} (o:Has h0 ((eM sz (λx=>be (sh.enc x)) l c).star (jl (wF okQ) c j)) k):Has h0 (jl (bM.ok (sh:=sh) (sz:=sz) okQ) l j) k:=by
 refine o.map λw F h=> ?_;obtain ⟨u,v,e,d,⟨f,i,n⟩,⟨g,t,s,p⟩⟩:=h;refine ⟨f++g,⟨c,f,g,rfl,i,t⟩,?_,λb=> ?_⟩
 ·rw [List.nodup_append];exact ⟨i.nodup,s,λa q b hb r=>by subst r;exact d a ((n a).2 q) ((p a).2 hb)⟩
 grind
theorem Ub {x:ay} {c:aV} {Q:ay->Hp->Prop} (a:dN k x c) (hl:c.labels.length<=1000) (ht:c.table.length<=1000) (hp:c.procs.length<=1000) (hc:∀y∈c.procs,y.code.length<=1000)
  (hq:∀r m,Has k ((jl uL r.bn c.labels).star ((jl kK r.Table c.table).star (jl mF r.aO c.procs))) m->r.Fuel=c.fuel->r.iO=c.lane->r.cf=c.an->r.Log=c.log->Q r m):Wd prog x Q k:=by
 unfold Wd;refine zgi ?_;unfold LJ;refine qN (enc:=λx:Int=>be ((ab .u64).enc x)) (ah.aH 22 u6 rfl) a.labels (by decide) (λ_=>rfl) (λ_=>rfl) rfl ⟨by omega,by omega⟩ λll L l1 n1=> ?_;refine ⟨⟨trivial,trivial,trivial⟩,?_⟩;have a1:=a.mono l1;refine EH ?_;unfold AG;refine qN (enc:=λx:Int=>be ((ab .i64).enc x)) (ah.aH 23 nV rfl) a1.table (by decide) (λ_=>rfl) (λ_=>rfl) rfl ⟨by omega,by omega⟩ λlt w l2 n2=> ?_;refine ⟨⟨trivial,trivial⟩,?_⟩;have a2:=a1.mono l2;obtain ⟨g,b3,G⟩:=a2.procs;have b2:g.length=c.procs.length:=G.len;refine zle ?_;unfold zfy;refine qN (enc:=eQ) (ah.aH 24 wN rfl) b3 (by decide) (λ_=>rfl) (λ_=>rfl) rfl ⟨by omega,by omega⟩ λlp M l3 N=> ?_;have c0:=(N.fJ (λ_=>rfl)).1;have nil:Has M (jl (wF vL) ([]:List ba) ([]:List iX)) M:=Has.ru (B:=[]) (Hp.le_refl _) rfl .nil λ_ h=>by cases h
 refine aA.intro (λ(t:Int) m=>0<=t/\t<=(g.length:Int)/\∃j:List ba,j.length=t.toNat/\Has w ((eM 2 eQ lp (j++g.drop t.toNat)).star (jl (wF vL) j (c.procs.take t.toNat))) m) (λt _=>(g.length-t).toNat) ⟨by omega,by omega,[],rfl,by simpa using N.beside nil⟩ ?_;rintro t m ⟨S,t1,j,D,o⟩;by_cases h:t<(g.length:Int)
 ·rw [if_pos (decide_eq_true (by omega))];have H:t.toNat<g.length:=by omega
  have b7:((t.toNat:Nat):Int)=t:=by omega
  obtain ⟨h5,l5,oO,_,fM⟩:=o.fst;have s:(j++g.drop t.toNat)[t.toNat]? =some g[t.toNat]:=by grind
  obtain ⟨pc,b1,C,u,I,a9⟩:=G.get (i:=t.toNat) (List.getElem?_eq_getElem H);generalize g[t.toNat]=y at s I C;have b8:u.length<=1000:=by grind
  refine Rs.get (sh:=bA) (oO.fJ (λ_=>rfl)) (λ_=>rfl) (by omega) S (by rw [List.length_append,List.length_drop];omega) λ(y':ba) J=> ?_;rw [s] at J;cases J;refine zmv ?_;unfold zgm;refine qN (enc:=λx=>be (bJ.enc x)) (ah.aH 48 wR rfl) (Rw.mono o.le I) (by decide) (λ_=>rfl) (λ_=>rfl) rfl ⟨by omega,by omega⟩ λn k6 l6 n6=> ?_;have X:∀l:List bu,cM (λx p=>bL x=p) l (l.map bL):=λl=>by
   induction l with
   | nil=>trivial
   | cons a r ih=>exact ⟨rfl,ih⟩
  have z:Has m (jl uK n pc.code) k6:=by rw [<-a9];obtain ⟨b0,F,⟨B,E,e⟩,hf⟩:=n6;exact Has.ru b0 ⟨u,B,[],by simp,E,Eb (X u)⟩ E.nodup λb hb=>hf b ((e b).2 hb)
  have oA:=(o.beside z).assoc;obtain ⟨h7,l7,P,_,b6⟩:=oA.fst;have Z:=(Rs.get (sh:=bA) (K:=λ_=>True) (P.fJ (λ_=>rfl)) (λ_=>rfl) (by omega) S (by rw [List.length_append,List.length_drop];omega) λ_ _=>trivial).1;refine ⟨⟨trivial,trivial⟩,Z,?_⟩;have key:=P.pH (i:=t.toNat) (x':=(⟨y.Part,n⟩:ba)) (off:=1) (new:=[n.v]) (λ_=>rfl) s (by simp) rfl
   (K:=λW=>(0<=yw (t+1)/\yw (t+1)<=(g.length:Int)/\∃j:List ba,j.length=(yw (t+1)).toNat/\Has w ((eM 2 eQ lp (j++g.drop (yw (t+1)).toNat)).star (jl (wF vL) j (c.procs.take (yw (t+1)).toNat))) W)/\(g.length-yw (t+1)).toNat<(g.length-t).toNat) λk8 O=> ?_
  ·grind
  ·rw [wrap64 (by omega) (by omega)];refine ⟨⟨by omega,by omega,j++ [⟨y.Part,n⟩],by rw [List.length_append,D,List.length_singleton];omega,?_⟩,by omega⟩;have q:(t+1).toNat=t.toNat+1:=by omega
   have U:(j++g.drop t.toNat).set t.toNat (⟨y.Part,n⟩:ba)=(j++ [⟨y.Part,n⟩])++g.drop (t.toNat+1):=by rw [List.set_append_right _ _ (by omega),D,Nat.sub_self,List.drop_eq_getElem_cons H,List.set_cons_zero,List.append_assoc];rfl
   rw [U] at O;have V:c.procs.take (t.toNat+1)=c.procs.take t.toNat++ [pc]:=by rw [List.take_add_one,b1];rfl
   rw [q,V];refine (b6 _ _ O).map λkk F Y=>AP (λ_ h=>h) (λF' h=> ?_) Y;obtain ⟨F1,F2,e,d,⟨T,r1,b4,f1⟩,⟨A,r2,b5,f2⟩⟩:=h;refine ⟨T++A,nH.snoc (R:=pW) (a:=(⟨y.Part,n⟩:ba)) (b:=pc) (B':=A) ⟨C,r2⟩ r1,?_,λb=> ?_⟩
   ·rw [List.nodup_append];exact ⟨b4,b5,λa ha b hb a8=>by subst a8;exact d a ((f1 a).2 ha) ((f2 a).2 hb)⟩
   grind
 ·rw [if_neg (λe=>h (by grind))];have q:t.toNat=g.length:=by omega
  rw [q,List.drop_length,List.append_nil,b2,List.take_length] at o;have o1:=o.rowsOf (sh:=bA) (okQ:=vL);have oU:Has k (jl uL ll c.labels) L:=n1.jf (f:=λx=>x) (λ_=>rfl) λ_=>rfl;have z:Has L (jl kK lt c.table) w:=n2.jf (f:=λx=>x) (λ_=>rfl) λ_=>rfl;exact hq _ m ((oU.beside z).beside o1).assoc a.fuel a.lane a.an a.log
end
section
variable {h0 k:Hp} {K:MK} {pm:Addr} {s:MS} {f:Nat->Nat->Int}
theorem Ff {r:ay} {c:aV} (o:Has h0 ((jl uL r.bn c.labels).star ((jl kK r.Table c.table).star (jl mF r.aO c.procs))) k) (q:r.Fuel=c.fuel) (t:r.iO=c.lane) (u:r.cf=c.an) (v:r.Log=c.log):Has h0 (jl FB r c) k:=by
 refine o.map λG F h=> ?_;obtain ⟨B,C,e,d,⟨l,z,w,f1⟩,⟨D,E,i,p,⟨m,r2,x,f2⟩,⟨n,A,y,f3⟩⟩⟩:=h;refine ⟨l++(m++n),⟨l,m,n,rfl,z,r2,A,q,t,u,v⟩,?_,λb=> ?_⟩
 ·rw [List.nodup_append,List.nodup_append];refine ⟨w,⟨x,y,λa g b hb j=> ?_⟩,λa g b hb j=> ?_⟩
  ·subst j;exact p a ((f2 a).2 g) ((f3 a).2 hb)
  ·subst j;rcases List.mem_append.1 hb with hb | hb
   ·exact d a ((f1 a).2 g) ((i a).2 (.inl ((f2 a).2 hb)))
   ·exact d a ((f1 a).2 g) ((i a).2 (.inr ((f3 a).2 hb)))
 ·rw [e b,i b,f1 b,f2 b,f3 b,List.mem_append,List.mem_append]
end
def kz :cY:=⟨0,[],0,0,[],[]⟩
def nk :ai:=⟨0,0,[],0,0,false,0,[]⟩
def bh (t:fz):MS:=⟨t.tick,λi=>t.parts.getD i kz,λp=>t.procs.getD p nk⟩
theorem GM {l:List Int} (h:∀z∈l,l.countP (λy=>decide (y=z))<=1):l.Nodup:=by
 induction l with
 | nil=>simp
 | cons a l d=>
  rw [List.nodup_cons];refine ⟨λb=> ?_,d λz e=> ?_⟩
  ·have c:=h a (List.mem_cons_self ..);rw [List.countP_cons] at c;have:0<l.countP (λy=>decide (y=a)):=List.countP_pos_iff.2 ⟨a,b,by simp⟩;simp at c;exact absurd b (by
    intro b;have:=c a b;exact this rfl)
  grind
theorem xr {c:Type} {f:c->Nat} {l:List c} {a:c} (h:a∈l):f a<=(l.map f).sum:=by
 induction l with
 | nil=>cases h
 | cons b l d=>grind
theorem yb {b:Type} {f:b->Nat} {l:List b} (h:(l.map f).sum≠0):∃a∈l,f a≠0:=by refine Classical.byContradiction λc=>h ?_;rw [List.sum_eq_zero_iff_forall_eq_nat];grind
section
variable {c:aV} {fl:Nat->Nat->Bool} {t:fz}
theorem ve (hp:t.parts.length=nP c) (d:t.procs.length=nQ c):(bh t).list c=t:=by
 have a:(List.range (nP c)).map (bh t).part=t.parts:=by
  refine List.ext_getElem? λj=> ?_;rw [List.getElem?_map];by_cases h:j<nP c
  ·rw [List.getElem?_range h,List.getElem?_eq_getElem (by omega)];simp [bh,List.getD,List.getElem?_eq_getElem (show j<t.parts.length by omega)]
  grind
 have b:(List.range (nQ c)).map (bh t).proc=t.procs:=by
  refine List.ext_getElem? λj=> ?_;rw [List.getElem?_map];by_cases h:j<nQ c
  ·rw [List.getElem?_range h,List.getElem?_eq_getElem (by omega)];simp [bh,List.getD,List.getElem?_eq_getElem (show j<t.procs.length by omega)]
  grind
 unfold MS.list;rw [a,b];rfl
theorem HM (m:cg c) {i:Nat} {st:fz}:∀ {l:List pN} {last:Int},wi c st i last l->l.Pairwise (λa b=>a.tick<=b.tick)/\∀e∈l,last<=e.tick/\e.tick<st.tick/\0<=e.proc/\e.proc.toNat<nQ c/\ax c e.proc.toNat=i
 | [],_,_=>⟨List.Pairwise.nil,λe h=>by cases h⟩
 | e::r,last,h=>by
  obtain ⟨f,g,j,k⟩:=h;obtain ⟨a,b⟩:=HM m k;refine ⟨List.pairwise_cons.2 ⟨λd he'=>(b d he').1,a⟩,λd he'=> ?_⟩;rcases List.mem_cons.1 he' with rfl | he'
  ·exact ⟨f,g,(tU m).1 j⟩
  grind
theorem I5 (m:cg c) (h:tZ c t λi y=>fl i y.toNat=true) (hr:∀x∈t.procs,x.br.length=8):Good c fl (bh t) No No t.tick:=by
 obtain ⟨⟨hT,hp,hq⟩,hP,hQ,b6,b7,b5⟩:=h;have d4:=ve (c:=c) (t:=t) hp hq;have I:∀ {i},i<nP c->t.parts[i]? =some ((bh t).part i):=λ{i} d=>by have:=Lk (c:=c) (s:=bh t) d;grind
 have g:∀ {i},i<nQ c->t.procs[i]? =some ((bh t).proc i):=λ{i} d=>by have:=xF (c:=c) (s:=bh t) d;grind
 have c7:∀ {p:Int} {q:ai->Prop},M7 t p q->p.toNat<nQ c->q ((bh t).proc p.toNat):=λ{p q} h hp=>by obtain ⟨x,B,H⟩:=h;grind
 have b0:∀ {p:Int} {q:ai->dP->Prop},Lv c t p q->p.toNat<nQ c->∃n,dF c p.toNat ((bh t).proc p.toNat)=some n/\q ((bh t).proc p.toNat) n:=λ{p q} h hp=>by obtain ⟨x,y,n,B,H,S,e4⟩:=h;rw [g hp] at B;cases B;obtain ⟨y',f1,f2,f3⟩:=tQ m hp;rw [H] at f1;cases f1;exact ⟨n,by rw [<-vC f3];exact S,e4⟩
 have d0:∀p,p<nQ c->∀j,j<nQ c->∀(i:Nat) l,((bh t).proc j).af[i]? =some l->∀w∈l.waiters,w.proc=(p:Int)->((bh t).proc p).state=2:=λp hp j u i l L w G e=>by obtain ⟨y,f1,f2,f3⟩:=tQ m u;have O:=(b7 j _ y (g u) f1 i l L w G).2.2.2.2;obtain ⟨n,_,E,_⟩:=b0 O (by omega);rw [e,Int.toNat_natCast] at E;exact E
 have c8:∀p,p<nQ c->∀j,j<nP c->∀q∈((bh t).part j).al,(p:Int)∈q->((bh t).proc p).state=3:=λp hp j u q X M=>by
  obtain ⟨k,hk,K⟩:=List.getElem_of_mem X;have W:((bh t).part j).al[k]? =some q:=by grind
  obtain ⟨n,_,E,_⟩:=b0 (b6 j _ (I u) k q W _ M).2.1 (by omega);rw [Int.toNat_natCast] at E;exact E
 refine ⟨hT.1,λi d=> ?_,λp F=> ?_,λi d k o ho=> ?_,λi d k q c6=> ?_,λr b8 i l L=> ?_,λp F _ N=> ?_,λp F _ h2=> ?_⟩
 ·obtain ⟨⟨a1,a2,a3⟩,a4,a5,a6,a7,Y,a9,_⟩:=hP i _ (I d);obtain ⟨Q,R⟩:=HM m a4;exact ⟨⟨a1,by rw [I1 m] at a2;exact a2⟩,a3,⟨Q,R⟩,a5,a6,a7,Y,a9⟩
 ·obtain ⟨y,f1,f2,f3⟩:=tQ m F;obtain ⟨a1,a2,a3,a4,a5,a6,a7,Y,a9,Q,R,b3,b4⟩:=hQ p _ y (g F) f1;rw [vC f3] at Q R b3 b4;rw [f3] at a2;refine ⟨a1,a2,a3,a4,a5,a6,.inr a7,λh=>⟨.inr (Y h).1,(Y h).2⟩,λi l L=> ?_,Q,R,b3,b4,hr _ (List.mem_of_getElem? (g F))⟩;obtain ⟨C,b,D,c4⟩:=a9 i l L;refine ⟨C,b,D,λhu d=> ?_⟩;have:=c4 hu d;rw [f2] at this;have this:fl i ((ax c p:Nat):Int).toNat=true:=this
  rwa [Int.toNat_natCast] at this
 ·by_cases e:o= -1
  ·exact .inl e
  ·obtain ⟨Q,R⟩:=(hP i _ (I d)).2.2.2.2.2.2.2 o (List.mem_of_getElem? ho) e;obtain ⟨C,b,D⟩:=(tU m).1 Q;exact .inr ⟨C,b,D,.inl (cZ.2 (c7 R b))⟩
 ·have J:=b6 i _ (I d) k q c6;refine ⟨GM λz U=> ?_,λz U=> ?_,λd2=> ?_⟩
  ·obtain ⟨C,b,D⟩:=(tU m).1 (J z U).1;have N:=b5 z.toNat _ (g b);rw [show ((z.toNat:Nat):Int)=z by omega] at N;have T:q.countP (λy=>decide (y=z))<=mq z ((bh t).part i):=xr (f:=λq:List Int=>q.countP (λy=>decide (y=z))) (List.mem_of_getElem? c6);have O:mq z ((bh t).part i)<=(t.parts.map (mq z)).sum:=xr (List.mem_of_getElem? (I d));split at N<;>omega
  ·obtain ⟨C,b,D⟩:=(tU m).1 (J z U).1;obtain ⟨n,B,H,S⟩:=b0 (J z U).2.1 b;obtain ⟨y,f1,f2,f3⟩:=tQ m b;have O:=(hQ z.toNat _ y (g b) f1).2.2.2.2.2.2.2.2.2.2.2.1 H;obtain ⟨n',Z,g2⟩:=O;rw [vC f3,B] at Z;cases Z;exact ⟨C,b,D,λh=>h,.inr ⟨H,n,B,g2,S⟩⟩
  ·cases q with
   | nil=>grind
   | cons a r=>obtain ⟨o,B,H,S⟩:=(J a (List.mem_cons_self ..)).2.2;refine ⟨o,B,by omega,λM=> ?_⟩;grind
 ·obtain ⟨y,f1,f2,f3⟩:=tQ m b8;have J:=b7 r _ y (g b8) f1 i l L;refine ⟨GM λz U=> ?_,λd2=> ?_,λw G=> ?_⟩
  ·obtain ⟨w,G,rfl⟩:=List.mem_map.1 U;obtain ⟨C,b,D⟩:=(tU m).1 (J w G).2.1;have N:=b5 w.proc.toNat _ (g b);rw [show ((w.proc.toNat:Nat):Int)=w.proc by omega] at N;have T:uq w.proc l<=mo w.proc ((bh t).proc r):=xr (List.mem_of_getElem? L);have O:mo w.proc ((bh t).proc r)<=(t.procs.map (mo w.proc)).sum:=xr (List.mem_of_getElem? (g b8));rw [vD] at T;split at N<;>omega
  ·cases d5:l.waiters with
   | nil=>grind
   | cons a ws=>obtain ⟨B,_,S,e4,_⟩:=J a (by grind);exact ⟨by omega,.inl (cZ.2 S),e4⟩
  ·obtain ⟨B,H,_,_,e5⟩:=J w G;obtain ⟨C,b,D⟩:=(tU m).1 H;obtain ⟨n,Z,g2,g3,g4,g5⟩:=b0 e5 b;exact ⟨C,b,D,λh=>h,.inr ⟨g2,n,Z,g3,by simp [ft,List.getD,g4],by simp [ft,List.getD,g5]⟩⟩
 ·have T:=b5 p _ (g F);rw [if_pos (.inl N)] at T;have O:(t.procs.map (mo (p:Int))).sum=0:=by
   rw [List.sum_eq_zero_iff_forall_eq_nat];intro y hy;obtain ⟨x,P,rfl⟩:=List.mem_map.1 hy;obtain ⟨j,u,K⟩:=List.getElem_of_mem P;have v:j<nQ c:=by have:t.procs.length=nQ c:=hq;omega
   have e:x=(bh t).proc j:=by have A:=g v;rw [List.getElem?_eq_getElem u,K] at A;exact Option.some.inj A
   subst e;refine DN λl L w G ew=> ?_;obtain ⟨i,d,V⟩:=List.getElem_of_mem L;have:=d0 p F j v i l (by rw [List.getElem?_eq_getElem d,V]) w G ew;omega
  have E:(t.parts.map (mq (p:Int))).sum≠0:=by omega
  obtain ⟨x,P,c0⟩:=yb E;obtain ⟨j,u,K⟩:=List.getElem_of_mem P;have v:j<nP c:=by have:t.parts.length=nP c:=hp;omega
  have e:x=(bh t).part j:=by have A:=I v;rw [List.getElem?_eq_getElem u,K] at A;exact Option.some.inj A
  subst e;obtain ⟨q,X,d3⟩:=yb c0;obtain ⟨k,hk,V⟩:=List.getElem_of_mem X;have W:((bh t).part j).al[k]? =some q:=by rw [List.getElem?_eq_getElem hk,V]
  have M:(p:Int)∈q:=Classical.byContradiction λhn=>d3 (EW hn);have h7:=((tU m).1 (b6 j _ (I v) k q W _ M).1).2.2;rw [Int.toNat_natCast] at h7;grind
 ·have T:=b5 p _ (g F);rw [if_pos (.inr h2)] at T;have O:(t.parts.map (mq (p:Int))).sum=0:=by
   rw [List.sum_eq_zero_iff_forall_eq_nat];intro y hy;obtain ⟨x,P,rfl⟩:=List.mem_map.1 hy;obtain ⟨j,u,K⟩:=List.getElem_of_mem P;have v:j<nP c:=by have:t.parts.length=nP c:=hp;omega
   have e:x=(bh t).part j:=by have A:=I v;rw [List.getElem?_eq_getElem u,K] at A;exact Option.some.inj A
   subst e;refine DM λq X M=> ?_;have:=c8 p F j v q X M;omega
  have E:(t.procs.map (mo (p:Int))).sum≠0:=by omega
  obtain ⟨x,P,c0⟩:=yb E;obtain ⟨j,u,K⟩:=List.getElem_of_mem P;have v:j<nQ c:=by have:t.procs.length=nQ c:=hq;omega
  have e:x=(bh t).proc j:=by have A:=g v;rw [List.getElem?_eq_getElem u,K] at A;exact Option.some.inj A
  subst e;obtain ⟨l,d1,c5⟩:=yb c0;obtain ⟨i,d,V⟩:=List.getElem_of_mem d1;have W:((bh t).proc j).af[i]? =some l:=by rw [List.getElem?_eq_getElem d,V]
  rw [vD] at c5;have M:(p:Int)∈l.waiters.map (·.proc):=Classical.byContradiction λhn=>c5 (EW hn);obtain ⟨w,G,e⟩:=List.mem_map.1 M;obtain ⟨y,f1,f2,f3⟩:=tQ m v;have h7:=((tU m).1 (b7 j _ y (g v) f1 i l W w G).2.1).2.2;rw [e,Int.toNat_natCast] at h7;grind
end
def qn (a c k:Hp):Hp:=λb=>match a b with | some d=>some d | none=>if c b=none then k b else none
theorem Ki {a d k:Hp} {b:Nat} {c:Obj} (e:a b=some c):qn a d k b=some c:=by unfold qn;rw [e]
theorem C9 {a c k:Hp} {b:Nat} (e:a b=none):qn a c k b=if c b=none then k b else none:=by unfold qn;rw [e]
theorem Rn {P:Program} {g:FuncId} {args:List Value} {l K:Value->Hp->Prop} {f k:Hp} {A:dB} (o:Has f A k) (q:rR P g args l f) (r:∀v c p,l v c->Has c A p->K v p):rR P g args K k:=by
 intro w h;refine (q w (h.mono o.le)).mono ?_;rintro e y ⟨v,c,rfl,t,st⟩;obtain ⟨s,F,a,m⟩:=o;have key:∀b,F b->c b=none/\y.heap[b]? =w.heap[b]?:=λb hb=>by
  cases e:k b with
  | none=>exact absurd e (A.known a b hb)
  | some j=>have:=st.cF b (h.lt e) (m b hb);grind
 refine ⟨v,qn c f k,rfl,r v c _ t ⟨λb j e=>Ki e,F,A.same a λb hb=> ?_,λb hb=>(key b hb).1⟩,?_⟩
 ·rw [C9 (key b hb).1,if_pos (m b hb)]
 ·refine ⟨λb j e=> ?_,st.size,λb hb n=> ?_,st.os,st.tape,st.output⟩
  ·cases i:c b with
   | some z=>rw [Ki i] at e;cases e;exact st.sub b _ i
   | none=>
    rw [C9 i] at e;by_cases d:f b=none
    ·rw [if_pos d] at e;rw [(st.cF b (h.lt e) d).1];exact h b j e
    grind
  ·have d:f b=none:=sK s n;obtain ⟨u,x⟩:=st.cF b hb d;exact ⟨u,by rw [C9 x,if_pos d];exact n⟩
theorem tO {P:Program} {g:FuncId} {args:List Value} {sh:Shape} {K0 K:sh.T->Hp->Prop} {c k:Hp} {A:dB} (o:Has c A k) (d:aa P g args sh K0 c) (f:∀x a b,K0 x a->Has a A b->K x b):aa P g args sh K k:=
 Rn o d λ_ a b ⟨x,e,h⟩ i=>⟨x,e,f x a b h i⟩
theorem Kj {P:Program} {g:FuncId} {args:List Value} {s1 s2 s3:Shape} {K0 K:s1.T->s2.T->s3.T->Hp->Prop} {c k:Hp} {A:dB} (o:Has c A k) (d:kS P g args s1 s2 s3 K0 c) (e:∀x y z a b,K0 x y z a->Has a A b->K x y z b):kS P g args s1 s2 s3 K k:=
 tO o d λp a b h f=>e p.1 p.2.1 p.2.2 a b h f
theorem nB {c:aV} (h:(iZ c).1=0):cg c:=by obtain ⟨e,f,g,j,k,l,d,m,n,q,b⟩:=oy.1 h;obtain ⟨p,r,s⟩:=lO.1 e;have:=List.length_pos_iff.2 p;have:=List.length_pos_iff.2 n;refine ⟨⟨by unfold nP;omega,by unfold nP;omega⟩,⟨f,g,λi o=>by have:=j i o;unfold nP;omega⟩,k,l,d,m,⟨by unfold nQ;omega,by unfold nQ;omega⟩,λy a=>by have:=(b y a).1;unfold nP;omega,λy a=>(QZ d).1 (b y a).2⟩
section
variable {h0 k:Hp}
theorem Has.FN {a e:Type} {sz:Nat} {enc:a->List Value} {c:e->List Value} {l:Sl} {d:List a} (f:a->e) (t:∀x,enc x=c (f x)) (o:Has h0 (dD sz enc l d) k):Has h0 (dD sz c l (d.map f)) k:=by refine o.map λu F h=> ?_;obtain ⟨s,q,r⟩:=h;refine ⟨by grind,q,r.imp id ?_⟩;rintro ⟨b,off,g,i,j,m,n,p⟩;refine ⟨b,off,g,i,j,m,n,by rw [p,List.flatMap_map];congr 1;grind⟩
theorem aat {h:Hp} {t:Sl} {a:List Int} {n:Int} {Q:Option Addr->Int->Int->Hp->Prop} (r:Is h t a) (F:1<=n) (H:n<=8) (B:a≠ []) (J:a.length<=64) (I:∀x∈a,0<=x/\x<n)
  (D:∀p i s c,h<=c->bp c p [s.v,.int .i64 n]->Is c s a->Q (some p) 0 i c):JL prog t n Q h:=by
 unfold JL;have L:=r.1;have M:0<a.length:=List.length_pos_iff.2 B;intro b ty A;have l:=lP (o:=.cells (#[Value.int .i64 n]) ty (0,0)) A;have d:bp (h.set b (.cells (#[Value.int .i64 n]) ty (0,0))) ⟨b,0,none⟩ [.int .i64 n]:=Et (cs:=[Value.int .i64 n]);refine oX (sh:=ab .i64) n d ?_;refine ⟨n,λ_=>d,?_⟩;refine aK (aK ?_);rw [if_neg (by simp;omega),if_neg (by simp;omega)];have y:(a.any λx=>decide (x<0) || decide (x>=n))=false:=by grind
 refine zhl (f:=⟨IT, #[], #[.pointer (some ⟨b,0,none⟩)]⟩) (ID (p:=λx=>decide (x<0) || decide (x>=n)) (Rw.mono l r) (by omega) (λx _ k K m w=> ?_) λi c j z=> ?_)
 ·refine tP (g:=IT) rfl (zxx ?_);unfold ZZ;refine ⟨n,λ_=>ph m d,aK (w k m)⟩
 ·dsimp only;rw [y] at z;rw [if_neg (λe=>by grind)];refine oX (sh:=ab .i64) n (ph j d) ?_;refine EH ?_;unfold AG;refine qN (enc:=λx:Int=>be ((ab .i64).enc x)) (ah.aH 23 nV rfl) (Rw.mono (Hp.le_trans l j) r) (by decide) (λ_=>rfl) (λ_=>rfl) rfl ⟨by omega,by omega⟩ λout G q C=> ?_;refine ⟨⟨ph (Hp.le_trans j q) d,trivial⟩,?_⟩;intro E t2 u;exact D _ _ out _ (Hp.le_trans (Hp.le_trans l j) (Hp.le_trans q (lP u))) (Et (cs:=[out.v,.int .i64 n])) (Rw.mono (lP u) (C.fJ λ_=>rfl))
abbrev sX (R F G S T U:dB):dB:=(R.star (F.star G)).star (S.star (T.star U))
variable {R F G S T U:dB}
theorem Has.sR (o:Has h0 (sX R F G S T U) k):∃d,h0<=d/\Has d R k/\∀e f,Has d e f->Has h0 (sX e F G S T U) f:=by obtain ⟨d,a,b,_,c⟩:=o.fst;obtain ⟨i,a2,g,h⟩:=b.f1;exact ⟨i,Hp.le_trans a a2,g,λ_ _ j=>c _ _ (h _ _ j)⟩
theorem Has.sF (o:Has h0 (sX R F G S T U) k):∃d,h0<=d/\Has d F k/\∀e f,Has d e f->Has h0 (sX R e G S T U) f:=by obtain ⟨d,a,b,_,c⟩:=o.fst;obtain ⟨i,a2,g,h⟩:=b.f2;exact ⟨i,Hp.le_trans a a2,g,λ_ _ j=>c _ _ (h _ _ j)⟩
theorem Has.sG (o:Has h0 (sX R F G S T U) k):∃d,h0<=d/\Has d G k/\∀e f,Has d e f->Has h0 (sX R F e S T U) f:=by obtain ⟨d,a,b,_,c⟩:=o.fst;obtain ⟨i,a2,g,h⟩:=b.f3;exact ⟨i,Hp.le_trans a a2,g,λ_ _ j=>c _ _ (h _ _ j)⟩
theorem Has.sS (o:Has h0 (sX R F G S T U) k):∃d,h0<=d/\Has d S k/\∀e f,Has d e f->Has h0 (sX R F G e T U) f:=by obtain ⟨d,a,b,_,c⟩:=o.snd;obtain ⟨i,a2,g,h⟩:=b.f1;exact ⟨i,Hp.le_trans a a2,g,λ_ _ j=>c _ _ (h _ _ j)⟩
theorem Has.sT (o:Has h0 (sX R F G S T U) k):∃d,h0<=d/\Has d T k/\∀e f,Has d e f->Has h0 (sX R F G S e U) f:=by obtain ⟨d,a,b,_,c⟩:=o.snd;obtain ⟨i,a2,g,h⟩:=b.f2;exact ⟨i,Hp.le_trans a a2,g,λ_ _ j=>c _ _ (h _ _ j)⟩
theorem Has.sU (o:Has h0 (sX R F G S T U) k):∃d,h0<=d/\Has d U k/\∀e f,Has d e f->Has h0 (sX R F G S T e) f:=by obtain ⟨d,a,b,_,c⟩:=o.snd;obtain ⟨i,a2,g,h⟩:=b.f3;exact ⟨i,Hp.le_trans a a2,g,λ_ _ j=>c _ _ (h _ _ j)⟩
def jR (q:Addr) (own:Sl) (n:Nat) (y:cY) (b:Nat->Int):dB:=.some_ λx:bg=>.some_ λlp:Addr=>.some_ λa:Addr=>
 ((dq vX q x).star ((dD 3 Fi x.log y.log).star ((mi lp y.az y.al).star (rP a b (2*n))))).star (.fact (x.procs=own/\x.ae=y.ae/\x.lost=y.lost/\x.forbidden=y.forbidden/\x.an=some lp/\x.dI=some a))
def oj (q:Addr) (p i:Nat) (code:Sl) (room:Int) (y:ai):dB:=.some_ λz:aJ=>.some_ λa:Addr=>
 ((dq bm q z).star (dO a room y.af y.ae)).star (.fact (z.dp=(p:Int)/\z.part=(i:Int)/\z.code=code/\z.state=y.state/\fT (dT z)=y.core/\z.bF=y.bF/\z.post=some a))
theorem Has.Bn {q lp a:Addr} {x:bg} {n:Nat} {y:cY} {b:Nat->Int} (o:Has h0 ((((mi lp y.az y.al).star (dD 3 Fi x.log y.log)).star (rP a b (2*n))).star (dq vX q x)) k)
  (e:x.ae=y.ae/\x.lost=y.lost/\x.forbidden=y.forbidden/\x.an=some lp/\x.dI=some a):Has h0 (jR q x.procs n y b) k:=by
 refine Has.ex.2 ⟨x,Has.ex.2 ⟨lp,Has.ex.2 ⟨a,Has.fu ?_ ⟨rfl,e⟩⟩⟩⟩;refine o.map λc F h=> ?_;exact AP (λ_ h=>h) (λ_ h=>AM (AP (λ_ h=>wc h) (λ_ h=>h) h)) (wc h)
theorem Has.Bo {q a:Addr} {z:aJ} {room:Int} {p i:Nat} {y:ai} (o:Has h0 ((dO a room y.af y.ae).star (dq bm q z)) k)
  (e:z.dp=(p:Int)/\z.part=(i:Int)/\z.state=y.state/\fT (dT z)=y.core/\z.bF=y.bF/\z.post=some a):Has h0 (oj q p i z.code room y) k:=
 Has.ex.2 ⟨z,Has.ex.2 ⟨a,Has.fu o.comm ⟨e.1,e.2.1,rfl,e.2.2⟩⟩⟩
theorem Ll {q:Addr} {own:Sl} {n id:Nat} {y:cY} {a:Nat->Int} {v:Int} {g:FuncId} {args:List Value} {K:Hp->Prop} (o:Has h0 (jR q own n y a) k) (B:n<=1000) (hid:id<2*n) (C:a id=0) (hv:0<=v)
  (m:∀ {Q:Int->Hp->Prop},Q (id:Int) k->aa prog g args (ab .i64) Q k) (c:∀b,Has h0 (jR q own n y (cm a id v)) b->K b):
  (if (decide (v>(0:Int)))=true then
 ag none (some q) λf=>
 aN none aj k (Addr.add f 6) λi=>
 aa prog g args (ab .i64) (λu d=>
 (((bp d (Addr.add f 6) [(.pointer i)])/\(True/\True))/\aa prog vW [(.pointer i),(.int .i64 u),(.int .i64 v)] (ab .i64) (λH l=>
 K l) d)) k
 else
 K k):=by
 by_cases h:v>0
 ·rw [if_pos (decide_eq_true h)];obtain ⟨x,o⟩:=Has.ex.1 o;obtain ⟨lp,o⟩:=Has.ex.1 o;obtain ⟨w,o⟩:=Has.ex.1 o;obtain ⟨o,e⟩:=o.jw;refine aP ((Has.left o).ld (shf:=aj) x.dI rfl ?_);refine m ⟨⟨(Has.left o).eA (off:=6) (n:=1) (vs:=[.pointer x.dI]) rfl,trivial,trivial⟩,?_⟩;obtain ⟨z,D,r,_,put⟩:=o.snd;obtain ⟨A,E,s,t⟩:=r.f3;rw [e.2.2.2.2.2];refine SK (Ef s (by omega) hid h λb p=>c b ?_);exact Has.ex.2 ⟨x,Has.ex.2 ⟨lp,Has.ex.2 ⟨w,(put _ _ (t _ _ p)).fu e⟩⟩⟩
 ·rw [if_neg (by simpa using h)];have:v=0:=by omega
  subst this;rw [show cm a id 0=a from funext λj=>by unfold cm;split<;>simp_all] at c;exact c k o
def yS (c:aV) (i j:Nat):List Nat:=(List.range j).filter λq=>decide (ax c q=i)
theorem HN {c:aV} {i j:Nat}:yS c i (j+1)=if ax c j=i then yS c i j++ [j] else yS c i j:=by unfold yS;rw [List.range_succ,List.filter_append];grind
end
structure wg (c:aV) (t:fz):Prop where
 parts:t.parts.length=nP c
 procs:t.procs.length=nQ c
 part:∀x∈t.parts,JD x.az x.al/\x.log.length<=4096
 proc:∀x∈t.procs,x.af.length=nP c+1/\(0<=x.ae/\x.ae<x.af.length)/\(∀l∈x.af,MF c.lane l)/\0<=x.timer/\0<=x.cn
section
variable {h0 h1 k:Hp} {c:aV} {t:fz}
abbrev xu (c:aV) (t:fz) (g:List Addr) (own:Nat->Sl) (m:Nat->Nat->Int) (i:Nat):dB:=dB.first (λi=>jR (g.getD i a0) (own i) (nQ c) (t.parts.getD i kz) (m i)) i
abbrev Du (c:aV) (t:fz) (u:List Addr) (code:Nat->Sl) (j:Nat):dB:=dB.first (λp=>oj (u.getD p a0) p (ax c p) (code p) c.lane (t.procs.getD p nk)) j
abbrev wI (c:aV) (own:Nat->Sl) (j i:Nat):dB:=dB.first (λi=>dD 1 fw (own i) ((yS c i j).map λ(q:Nat)=>(q:Int))) i
abbrev kT (c:aV) (t:fz) (pm:Addr) (x:aW) (g u:List Addr) (own code:Nat->Sl) (i j:Nat) (m:Nat->Nat->Int):dB:=
 sX (dq HA pm x) (xu c t g own m i) (Du c t u code j) (dD 1 eP x.parts g) (dD 1 eP x.procs u) (wI c own j i)
def tK (x:aW) (l:Sl):aW:={x with parts:=l}
def n9 (x:aW) (l:Sl):aW:={x with procs:=l}
variable {pm:Addr} {x:aW} {g u:List Addr} {own code:Nat->Sl} {m:Nat->Nat->Int}
theorem HO {b:Type} {l:List b} {a d:b} {i:Nat} (h:i=l.length):(l++ [a]).getD i d=a:=by grind
theorem Rp {s:aL} {i:Nat} {Q:Hp->Prop} (b:db h0 s t) (v:wg c t) (mc:cg c) (hi:i<nP c) (hp:g.length=i) (ex:x.procs=⟨none,0,0⟩)
  (o:Has h0 (kT c t pm x g [] (λ_=>⟨none,0,0⟩) code i 0 (λ_ _=>0)) k)
  (X:∀l a K,Has h0 (kT c t pm (tK x l) (g++ [a]) [] (λ_=>⟨none,0,0⟩) code (i+1) 0 (λ_ _=>0)) K->Q K):
  ((bB s.cq.base s.cq.len (i:Int))/\aN none aY k (sat s.cq.base 6 (i:Int)) λx=>
 bI prog MC [x.dm.v,x.eN.v] aj (ab .i64) (λr7 r8 F=>
 ag none (some pm) λd=>
 aN none ak F (Addr.add d 10) λe=>
 aa prog EG [x.Log.v] ak (λr9 G=>
 (((bp G (Addr.add d 10) [e.v])/\(True/\(True/\(True/\True))))/\aa prog Ck [] aj (λb7 C=>
 (((bp C (Addr.add d 10) [e.v])/\(True/\(True/\(True/\True))))/\bD [(.slice none 0 0),(.int .i64 x.Cursor),r9.v,(.int .i64 x.j8),(.int .i64 x.cS),(.pointer r7),(.pointer b7)] (λa1 D=>
 (((bp D (Addr.add d 10) [e.v])/\True)/\bD [(.pointer (some a1))] (λa2 E=>
 (((bp E (Addr.add d 10) [e.v])/\True)/\fR 1 8 [(.pointer none)] e ⟨(some a2),1,1⟩ (λb8 U=>
 ag none (some pm) λp3=>
 cD U (Addr.add p3 10) [b8.v] (λV=>
 Q V)) E)) D)) C)) G)) F) k):=by
 obtain ⟨ps,Z,H⟩:=b.parts;have c2:=H.len;have e1:=v.parts;have c1:=mc.parts;refine Rs.get (sh:=aY) (Rw.mono o.le Z) (λ_=>rfl) (by omega) (by omega) (by omega) λ(y:bx) I=> ?_;rw [Int.toNat_natCast] at I;obtain ⟨z,J,f⟩:=H.get I;have b0:=List.mem_of_getElem? J;obtain ⟨lv,h⟩:=v.part z b0;have r:=f.mono o.le;obtain ⟨qs,a9,a8⟩:=r.al;refine Xq (VV lv r.az a9 a8 λlp k2 L o2=> ?_);have on:=o.grow L;obtain ⟨g1,m1,p,jy⟩:=on.sR;refine aP (p.ld (shf:=ak) x.parts rfl ?_);have R:=r.mono L;obtain ⟨T,W,Y⟩:=R.log;have c0:T.length=z.log.length:=by grind
 refine Ol ?_;unfold LI;refine qN (enc:=λx=>be (cR.enc x)) (ah.aH 112 qE rfl) W (by decide) (λ_=>rfl) (λ_=>rfl) rfl ⟨by omega,by omega⟩ λh k3 A B=> ?_;refine ⟨⟨(p.grow A).eA (off:=10) (n:=1) (vs:=[x.parts.v]) rfl,trivial,trivial,trivial,trivial⟩,?_⟩;have B:Has k2 (dD 3 Fi h z.log) k3:=by rw [<-Y];exact B.uN.FN qJ λ_=>rfl
 refine Xs (Wf (n:=2*nQ c) λP k4 M o4=> ?_);refine ⟨⟨((p.grow A).grow M).eA (off:=10) (n:=1) (vs:=[x.parts.v]) rfl,trivial,trivial,trivial,trivial⟩,?_⟩;refine vR (sh:=vX) (⟨⟨none,0,0⟩,y.Cursor,h,y.j8,y.cS,some lp,some P⟩:bg) rfl λq k5 l5 o5=> ?_;refine ⟨⟨(((p.grow A).grow M).grow l5).eA (off:=10) (n:=1) (vs:=[x.parts.v]) rfl,trivial⟩,?_⟩;have oN:Has k (jR q ⟨none,0,0⟩ (nQ c) z (λ_=>0)) k5:=Has.Bn (x:=(⟨⟨none,0,0⟩,y.Cursor,h,y.j8,y.cS,some lp,some P⟩:bg)) (((o2.beside B).beside o4).beside o5) ⟨f.ae,f.lost,f.forbidden,rfl,rfl⟩;obtain ⟨g2,m2,oF,b3⟩:=o.sF;have O:=b3 _ _ (oF.beside oN);refine gI (enc:=eP) (xs:=[q]) rfl (λ_=>rfl) λa2 k6 N o6=> ?_;obtain ⟨g3,m3,b1,_⟩:=(O.grow N).sR;refine ⟨⟨b1.eA (off:=10) (n:=1) (vs:=[x.parts.v]) rfl,trivial⟩,?_⟩;obtain ⟨g4,m4,oS,b5⟩:=(O.grow N).sS;refine oS.app (o6.iq λ_=>rfl) (λ_=>rfl) (λ_=>rfl) rfl ⟨by rw [hp,List.length_singleton];omega,by rw [hp,List.length_singleton];omega⟩ λw k7 o7=> ?_;have oB:=b5 _ _ o7;obtain ⟨g5,m5,b2,b4⟩:=oB.sR;refine aP (b2.st (tK x w) (off:=10) (new:=[w.v]) (by show 10+1<=12;omega) rfl λk8 o8=>X w q k8 ?_);have oC:=b4 _ _ o8;obtain ⟨g6,m6,oU,b6⟩:=oC.sU;have oD:=b6 _ _ (oU.beside (Has.jW (sz:=1) (enc:=fw) (Hp.le_refl _)));refine cast ?_ oD;congr 1;have S:(xu c t g (λ_=>⟨none,0,0⟩) (λ_ _=>0) i).star (jR q ⟨none,0,0⟩ (nQ c) z λ_=>0)=xu c t (g++ [q]) (λ_=>⟨none,0,0⟩) (λ_ _=>0) (i+1):=by show _=(dB.first (λi=>jR ((g++ [q]).getD i a0) ⟨none,0,0⟩ (nQ c) (t.parts.getD i kz) λ_=>0) i).star (jR ((g++ [q]).getD i a0) ⟨none,0,0⟩ (nQ c) (t.parts.getD i kz) λ_=>0);rw [HO hp.symm,mK J];congr 1;exact sI λj hj=>by grind
 rw [S];rfl
theorem Rr {s:aL} {co:ay} {j:Nat} {ci:List ba} {Q:Hp->Prop} (b:db h0 s t) (v:wg c t) (K:cg c) (R:j<nQ c) (hp:u.length=j) (j1:g.length=nP c)
  (c2:co.iO=c.lane) (d0:Rs h0 bA 2 x.gx ci) (b2:cM (jo h0) ci c.procs) (d1:∀(p:Nat) y,ci[p]? =some y->code p=y.Code)
  (S:∀i id,i<nP c->m i id=if id / 2<j then mL c (bh t) i id else 0)
  (o:Has h0 (kT c t pm x g u own code (nP c) j m) k)
  (hk:∀l a f4 b5 k',(∀i id,i<nP c->b5 i id=if id / 2<j+1 then mL c (bh t) i id else 0)->Has h0 (kT c t pm (n9 x l) g (u++ [a]) f4 code (nP c) (j+1) b5) k'->Q k'):
  ((bB s.aO.base s.aO.len (j:Int))/\aN none aE k (sat s.aO.base 15 (j:Int)) λx=>
 ag none (some pm) λp2=>
 aN none ak k (Addr.add (Addr.add p2 0) 6) λY=>
 ((bB Y.base Y.len (j:Int))/\aN none bA k (sat Y.base 2 (j:Int)) λM=>
 bI prog w8 [(.int .i64 co.iO),x.gB.v,(.int .i64 x.Cursor)] aj (ab .i64) (λr7 r8 h9=>
 ag none (some pm) λW=>
 aN none ak h9 (Addr.add W 11) λZ=>
 bD [(.int .i64 (j:Int)),(.int .i64 M.Part),M.Code.v,(.int .i64 x.State),(.int .i64 x.PC),(.int .i64 x.bV),(.int .i64 x.bW),(.int .i64 x.bX),(.int .i64 x.bY),(.int .i64 x.bZ),(.int .i64 x.b9),(.int .i64 x.cc),(.int .i64 x.cd),(.bool x.gA),(.pointer r7)] (λa1 a9=>
 (((bp a9 (Addr.add W 11) [Z.v])/\True)/\bD [(.pointer (some a1))] (λa2 b0=>
 (((bp b0 (Addr.add W 11) [Z.v])/\True)/\fR 1 8 [(.pointer none)] Z ⟨(some a2),1,1⟩ (λr9 c5=>
 ag none (some pm) λp4=>
 cD c5 (Addr.add p4 11) [r9.v] (λI=>
 ag none (some pm) λp5=>
 aN none ak I (Addr.add p5 10) λx4=>
 ((bB x4.base x4.len M.Part)/\aN none aj I (sat x4.base 1 M.Part) λN=>
 ag none N λp6=>
 aN none ak I (Addr.add p6 0) λx6=>
 bD [(.int .i64 (j:Int))] (λa3 c6=>
 fR 1 8 [(.int .i64 (0:Int))] x6 ⟨(some a3),1,1⟩ (λh4 c7=>
 ag none N λp7=>
 cD c7 (Addr.add p7 0) [h4.v] (λO=>
 bU (λk1=>
 (if (decide (x.Timer>(0:Int)))=true then
 ag none N λF=>
 aN none aj O (Addr.add F 6) λG=>
 aa prog vY [(.int .i64 (j:Int))] (ab .i64) (λX C=>
 (((bp C (Addr.add F 6) [(.pointer G)])/\(True/\True))/\aa prog vW [(.pointer G),(.int .i64 X),(.int .i64 x.Timer)] (ab .i64) (λh5 J=>
 k1 J) C)) O
 else
 k1 O))
 (λC=>
 (if (decide (x.j9>(0:Int)))=true then
 ag none N λF=>
 aN none aj C (Addr.add F 6) λG=>
 aa prog xc [(.int .i64 (j:Int))] (ab .i64) (λX J=>
 (((bp J (Addr.add F 6) [(.pointer G)])/\(True/\True))/\aa prog vW [(.pointer G),(.int .i64 X),(.int .i64 x.j9)] (ab .i64) (λh5 c8=>
 Q c8) J)) C
 else
 Q C)))) c6) I))) b0)) a9)) h9) k)):=by
 obtain ⟨ps,d6,b1⟩:=b.procs;have i9:=b1.len;have e1:=v.procs;have i7:=K.parts;have j0:=K.procs;refine Rs.get (sh:=aE) (Rw.mono o.le d6) (λ_=>rfl) (by omega) (by omega) (by omega) λ(y:aR) hy=> ?_;rw [Int.toNat_natCast] at hy;obtain ⟨z,T,A⟩:=b1.get hy;have d7:=List.mem_of_getElem? T;obtain ⟨v1,v2,v3,v4,v5⟩:=v.proc z d7;obtain ⟨g1,m1,V,jy⟩:=o.sR;refine aP (V.ld (shf:=ak) x.gx (off:=6) rfl ?_);have i3:=b2.len;have i5:nQ c=c.procs.length:=rfl;refine Rs.get (sh:=bA) (Rw.mono o.le d0) (λ_=>rfl) (by omega) (by omega) (by omega) λ(H:ba) P=> ?_;rw [Int.toNat_natCast] at P;obtain ⟨E,b3,b7,_⟩:=b2.get P;have d2:=List.mem_of_getElem? b3;have i6:=K.part E d2;have h7:ax c j=E.part.toNat:=by unfold ax;rw [b3];rfl
 have c0:=d1 j H P;rw [b7];have b6:=A.mono o.le;obtain ⟨ls,d5,d3⟩:=b6.af;have d4:=K.lane;rw [c2,A.ae];refine ZF (X8 d4 (by omega) v2 d5 d3 v3 λa k2 l2 o2=> ?_);refine aP ((V.grow l2).ld (shf:=ak) x.procs rfl ?_);refine vR (sh:=bm) (⟨(j:Int),E.part,H.Code,y.State,y.PC,y.bV,y.bW,y.bX,y.bY,y.bZ,y.b9,y.cc,y.cd,y.gA,some a⟩:aJ) rfl λq k3 l3 o3=> ?_;refine ⟨⟨((V.grow l2).grow l3).eA (off:=11) (n:=1) (vs:=[x.procs.v]) rfl,trivial⟩,?_⟩;have c1:fT (dT (⟨(j:Int),E.part,H.Code,y.State,y.PC,y.bV,y.bW,y.bX,y.bY,y.bZ,y.b9,y.cc,y.cd,y.gA,some a⟩:aJ))=z.core:=by show (⟨y.PC,[y.bV,y.bW,y.bX,y.bY,y.bZ,y.b9,y.cc,y.cd]⟩:Core)=⟨z.pc,z.br⟩;rw [A.pc,A.br]
 have oN:Has k (oj q j (ax c j) (code j) c.lane z) k3:=by rw [c0];exact Has.Bo (z:=(⟨(j:Int),E.part,H.Code,y.State,y.PC,y.bV,y.bW,y.bX,y.bY,y.bZ,y.b9,y.cc,y.cd,y.gA,some a⟩:aJ)) (o2.beside o3) ⟨rfl,by grind,A.state,c1,A.bF,rfl⟩
 obtain ⟨g2,m2,oG,f6⟩:=o.sG;have oA:=f6 _ _ (oG.beside oN);refine gI (enc:=eP) (xs:=[q]) rfl (λ_=>rfl) λa2 k4 l4 o4=> ?_;obtain ⟨g3,m3,e8,_⟩:=(oA.grow l4).sR;refine ⟨⟨e8.eA (off:=11) (n:=1) (vs:=[x.procs.v]) rfl,trivial⟩,?_⟩;obtain ⟨g4,m4,oT,g0⟩:=(oA.grow l4).sT;refine oT.app (o4.iq λ_=>rfl) (λ_=>rfl) (λ_=>rfl) rfl ⟨by rw [hp,List.length_singleton];omega,by rw [hp,List.length_singleton];omega⟩ λU k5 o5=> ?_;have oB:=g0 _ _ o5;obtain ⟨g5,m5,e9,f9⟩:=oB.sR;refine aP (e9.st (n9 x U) (off:=11) (new:=[U.v]) (by show 11+1<=12;omega) rfl λk6 o6=> ?_);have L:=f9 _ _ o6;obtain ⟨g6,m6,f0,l8⟩:=L.sR;refine aP (f0.ld (shf:=ak) x.parts rfl ?_);have D:ax c j<nP c:=by omega
 obtain ⟨g7,m7,oS,_⟩:=L.sS;have rs:Rs k6 aj 1 x.parts (g.map some):=(oS.iq (λ_=>rfl)).map (f:=some) (enc:=λx=>be (aj.enc x));refine rs.get (λ_=>rfl) (by omega) (by omega) (by grind) λ(w:Option Addr) hw=> ?_;have ew:w=some (g.getD (ax c j) a0):=by grind
 subst ew;obtain ⟨g8,m8,oF,l6⟩:=L.sF;obtain ⟨g9,m9,d,_,l7⟩:=oF.one D;obtain ⟨px,d⟩:=Has.ex.1 d;obtain ⟨lp,d⟩:=Has.ex.1 d;obtain ⟨wp,d⟩:=Has.ex.1 d;obtain ⟨d,eP⟩:=d.jw;refine aP ((Has.left d).ld (shf:=ak) (off:=0) px.procs rfl ?_);rw [eP.1];obtain ⟨h8,j2,oU,h2⟩:=L.sU;obtain ⟨i0,k0,oO,_,fM⟩:=oU.one D;have i4:((yS c (ax c j) j).map λ(q:Nat)=>(q:Int)).length<=j:=by rw [List.length_map];exact Nat.le_trans (List.length_filter_le ..) (by simp)
 refine oO.push (e:=(j:Int)) rfl (λ_=>rfl) (λ_=>rfl) rfl ⟨by omega,by omega⟩ λB k7 o7=> ?_;have oD:=h2 _ _ (fM _ _ o7);obtain ⟨i1,l0,e6,f5⟩:=oD.sF;obtain ⟨c4,l1,r,_,f7⟩:=e6.one D;obtain ⟨h3,r⟩:=Has.ex.1 r;obtain ⟨d9,r⟩:=Has.ex.1 r;obtain ⟨h6,r⟩:=Has.ex.1 r;obtain ⟨r,b8⟩:=r.jw;obtain ⟨i2,l5,e7,_,f8⟩:=r.fst;refine aP (e7.st ({h3 with procs:=B}:bg) (off:=0) (new:=[B.v]) (by show 0+1<=7;omega) rfl λk8 o8=> ?_);have oQ:Has c4 (jR (g.getD (ax c j) a0) B (nQ c) (t.parts.getD (ax c j) kz) (m (ax c j))) k8:=Has.ex.2 ⟨_,Has.ex.2 ⟨d9,Has.ex.2 ⟨h6,(f8 _ _ o8).fu ⟨rfl,b8.2⟩⟩⟩⟩;have c3:=S (ax c j);refine bU.direct ?_;rw [A.timer];refine Ll (id:=2*j) oQ (by omega) (by omega) (by grind) v4 (λh=>HE (by unfold Me;rw [wrap64 (by omega) (by omega)];grind)) λk9 o9=> ?_;rw [A.cn];refine Ll (id:=2*j+1) o9 (by omega) (by omega) (by rw [jE (by omega),c3 _ D,if_neg (by omega)]) v5 (λh=>HH (by unfold Mf;rw [show yw (2*(j:Int))=2*(j:Int) from wrap64 (by omega) (by omega),wrap64 (by omega) (by omega)];grind)) λd8 e0=> ?_;have oE:=f5 _ _ (f7 _ _ e0);have a8:(bh t).proc j=z:=mK T;refine hk U q (cm own (ax c j) B) (cm m (ax c j) (cm (cm (m (ax c j)) (2*j) z.timer) (2*j+1) z.cn)) d8 (λi id b4=> ?_) ?_
 ·by_cases e:i=ax c j
  ·subst e;rw [jA];by_cases e2:id=2*j+1
   ·subst e2;rw [jA,if_pos (by omega)];unfold mL;rw [show (2*j+1) / 2=j by omega,if_pos ⟨R,rfl⟩,if_neg (by omega),a8]
   ·rw [jE e2];by_cases e3:id=2*j
    ·subst e3;rw [jA,if_pos (by omega)];unfold mL;rw [show (2*j) / 2=j by omega,if_pos ⟨R,rfl⟩,if_pos (by omega),a8]
    ·rw [jE e3,S _ _ b4];omega
  ·rw [jE e,S _ _ b4];by_cases e4:id / 2<j
   ·omega
   ·rw [if_neg e4];split
    ·unfold mL;rw [if_neg ?_];rintro ⟨_,e5⟩;exact e (by rw [<-e5];congr 1;omega)
    ·rfl
 ·refine cast ?_ oE;congr 1;have eG:(Du c t u code j).star (oj q j (ax c j) (code j) c.lane z)=Du c t (u++ [q]) code (j+1):=by show _=(dB.first (λp=>oj ((u++ [q]).getD p a0) p (ax c p) (code p) c.lane (t.procs.getD p nk)) j).star (oj ((u++ [q]).getD j a0) j (ax c j) (code j) c.lane (t.procs.getD j nk));rw [HO hp.symm,mK T];congr 1;exact sI λj R=>by grind
  have eU:dB.first (cm (λi=>dD 1 fw (own i) ((yS c i j).map λ(q:Nat)=>(q:Int))) (ax c j) (dD 1 fw B ((yS c (ax c j) j).map (λ(q:Nat)=>(q:Int))++ [(j:Int)]))) (nP c)=wI c (cm own (ax c j) B) (j+1) (nP c):=by
   refine sI λi D=> ?_;by_cases e:i=ax c j
   ·subst e;rw [jA,jA,HN,if_pos rfl,List.map_append];rfl
   ·rw [jE e,jE e,HN,if_neg (Ne.symm e)]
  have eF:dB.first (cm (λi=>jR (g.getD i a0) (own i) (nQ c) (t.parts.getD i kz) (m i)) (ax c j) (jR (g.getD (ax c j) a0) B (nQ c) (t.parts.getD (ax c j) kz) (cm (cm (m (ax c j)) (2*j) z.timer) (2*j+1) z.cn))) (nP c)=xu c t g (cm own (ax c j) B) (cm m (ax c j) (cm (cm (m (ax c j)) (2*j) z.timer) (2*j+1) z.cn)) (nP c):=by
   refine sI λi D=> ?_;by_cases e:i=ax c j
   ·subst e;rw [jA,jA,jA]
   ·rw [jE e,jE e,jE e]
  rw [eG,eU,eF];rfl
theorem Yv {x:ay} {s:aL} {Q:Option Addr->Hp->Prop} (a:dN k x c) (b:db k s t) (hu:∀l∈c.labels,iN l) (I:(iZ c).1=0) (v:wg c t)
  (hq:∀K pm m h1 d,K.c=c->dh h1 K->k<=h1->Has h1 (aD K pm (bh t) m) d->dt c m (bh t)->Q (some pm) d):YG prog x s Q k:=by
 have G:=nB I;have hm:(jV c.labels).1=0:=by unfold iZ at I;exact (oy.1 I).1
 unfold YG;have d2:=G.parts;have d4:=G.procs;have b0:=G.table;have d0:nP c=c.labels.length:=rfl;have d3:nQ c=c.procs.length:=rfl;refine Pk (Ub a (by omega) (by omega) (by omega) (λy L=>by have:=(G.code y L).1;omega) λr T o1 e1 e2 e3 e4=> ?_);refine ⟨⟨trivial,trivial⟩,?_⟩;obtain ⟨B,hB,_⟩:=(Ff o1 e1 e2 e3 e4).as_;have U:=o1.le;have ar:dN T r c:=hB.rd;have a1:=a.mono U;have d1:x.bn.len=c.labels.length:=a.labels.1;refine vR (sh:=HA) (⟨r.bn,r.Table,r.Fuel,r.iO,r.cf,r.Log,r.aO,none,none,s.fE,⟨none,0,0⟩,⟨none,0,0⟩⟩:aW) rfl λpm k2 q o2=> ?_;refine Kj (s1:=aj) (s2:=ab .i64) (s3:=ab .i64) (K0:=λp _ _ z=>T<=z/\∃w,p=some w/\q9 z w c.labels) o2 (Xo (X2 a1.labels (λe=>absurd hm e) λ_ w z E ht=>⟨E,w,rfl,ht⟩)) ?_;rintro r1 r2 r3 h3 k3 ⟨l3,w,rfl,hT⟩ o3;refine aP (o3.st (⟨r.bn,r.Table,r.Fuel,r.iO,r.cf,r.Log,r.aO,some w,none,s.fE,⟨none,0,0⟩,⟨none,0,0⟩⟩:aW) (off:=7) (new:=[.pointer (some w)]) (by show 7+1<=12;omega) rfl λk4 o4=> ?_);have a3:=a1.mono l3;refine Kj (s1:=aj) (s2:=ab .i64) (s3:=ab .i64) (K0:=λp _ _ z=>h3<=z/\∃sp,p=some sp/\∃(sl:Sl) (n:Int),bp z sp [sl.v,.int .i64 n]/\Is z sl c.table) o4 (GI (aat a3.table (n:=(x.bn.len:Int)) (by omega) (by omega) b0.1 b0.2.1 (λi J=>by grind) λsp i sl z E hl hs=>⟨E,sp,rfl,sl,_,hl,hs⟩)) ?_;rintro r4 r5 r6 A k5 ⟨l5,sp,rfl,sl,sn,hL,hS⟩ o5;refine aP (o5.st (⟨r.bn,r.Table,r.Fuel,r.iO,r.cf,r.Log,r.aO,some w,some sp,s.fE,⟨none,0,0⟩,⟨none,0,0⟩⟩:aW) (off:=8) (new:=[.pointer (some sp)]) (by show 8+1<=12;omega) rfl λD o6=> ?_);have V:T<=A:=Hp.le_trans l3 l5;have H:db A s t:=b.mono (Hp.le_trans U V);have Z:=ar.mono V;obtain ⟨ci,b4,P⟩:=Z.procs;obtain ⟨code,b6⟩:∃code:Nat->Sl,∀(p:Nat) y,ci[p]? =some y->code p=y.Code:=⟨λp=>((ci[p]?).map (·.Code)).getD ⟨none,0,0⟩,λp y h=>by grind⟩;obtain ⟨X,C⟩:∃X:aW,X=⟨r.bn,r.Table,r.Fuel,r.iO,r.cf,r.Log,r.aO,some w,some sp,s.fE,⟨none,0,0⟩,⟨none,0,0⟩⟩:=⟨_,rfl⟩;rw [<-C] at o6;have c8:=P.len;have Bv:Has A (kT c t pm X [] [] (λ_=>⟨none,0,0⟩) code 0 0 (λ_ _=>0)) D:=by
  have f1:Has D (dB.fact True) D:=Has.fact trivial (Hp.le_refl _);have n1:Has D (dD 1 eP X.parts []) D:=by rw [C];exact Has.jW (Hp.le_refl _)
  have n2:Has D (dD 1 eP X.procs []) D:=by grind
  exact (o6.beside (f1.beside f1)).beside (n1.beside (n2.beside f1))
 obtain ⟨ps,c1,b3⟩:=H.parts;obtain ⟨qs,c3,c2⟩:=H.procs;have e5:=b3.len;have e6:=c2.len;have e7:=v.parts;have e8:=v.procs;have e9:s.cq.len=ps.length:=c1.1;have c7:s.aO.len=qs.length:=c3.1;refine aA.intro (λ(i:Int) d=>0<=i/\i<=(nP c:Int)/\∃(l:Sl) (g:List Addr),g.length=i.toNat/\Has A (kT c t pm (tK X l) g [] (λ_=>⟨none,0,0⟩) code i.toNat 0 (λ_ _=>0)) d) (λi _=>(nP c-i).toNat) ⟨by omega,by omega,X.parts,[],rfl,Bv⟩ ?_;rintro i k7 ⟨i0,i1,l,g,hp,o⟩;by_cases h:i<(nP c:Int)
 ·rw [if_pos (decide_eq_true (by omega))];have a8:((i.toNat:Nat):Int)=i:=by omega
  have key:=Rp (x:=tK X l) (i:=i.toNat) (Q:=λd=>(0<=yw (i+1)/\yw (i+1)<=(nP c:Int)/\∃(l:Sl) (g:List Addr),g.length=(yw (i+1)).toNat/\Has A (kT c t pm (tK X l) g [] (λ_=>⟨none,0,0⟩) code (yw (i+1)).toNat 0 (λ_ _=>0)) d)/\(nP c-yw (i+1)).toNat<(nP c-i).toNat) H v G (by omega) hp (by rw [C];rfl) o λE N d W=>by rw [wrap64 (by omega) (by omega)];refine ⟨⟨by omega,by omega,E,g++ [N],by rw [List.length_append,List.length_singleton];omega,?_⟩,by omega⟩;rw [show (i+1).toNat=i.toNat+1 by omega];exact W
  grind
 ·rw [if_neg (λe=>h (by grind))];have ei:i.toNat=nP c:=by omega
  rw [ei] at o hp;refine aA.intro (λ(j:Int) d=>0<=j/\j<=(nQ c:Int)/\∃(q:Sl) (u:List Addr) (own:Nat->Sl) (m:Nat->Nat->Int),u.length=j.toNat/\(∀i id,i<nP c->m i id=if id / 2<j.toNat then mL c (bh t) i id else 0)/\Has A (kT c t pm (n9 (tK X l) q) g u own code (nP c) j.toNat m) d) (λj _=>(nQ c-j).toNat) ⟨by omega,by omega,X.procs,[],λ_=>⟨none,0,0⟩,λ_ _=>0,rfl,λ_ _ _=>(by simp),o⟩ ?_;rintro j k8 ⟨j0,j1,q,u,own,m,R,S,o⟩;by_cases hj:j<(nQ c:Int)
  ·rw [if_pos (decide_eq_true (by omega))];have a8:((j.toNat:Nat):Int)=j:=by omega
   refine bU.direct ?_;have key:=Rr (x:=n9 (tK X l) q) (j:=j.toNat) (Q:=λd=>(0<=yw (j+1)/\yw (j+1)<=(nQ c:Int)/\∃(q:Sl) (u:List Addr) (own:Nat->Sl) (m:Nat->Nat->Int),u.length=(yw (j+1)).toNat/\(∀i id,i<nP c->m i id=if id / 2<(yw (j+1)).toNat then mL c (bh t) i id else 0)/\Has A (kT c t pm (n9 (tK X l) q) g u own code (nP c) (yw (j+1)).toNat m) d)/\(nQ c-yw (j+1)).toNat<(nQ c-j).toNat) H v G (by omega) R hp a.lane (by rw [C];exact b4) P b6 S o λE N c5 c6 d c4 W=>by rw [wrap64 (by omega) (by omega),show (j+1).toNat=j.toNat+1 by omega];exact ⟨⟨by omega,by omega,E,u++ [N],c5,c6,by grind,c4,W⟩,by omega⟩
   rw [a8] at key;exact key
  ·rw [if_neg (λe=>hj (by grind))];have ej:j.toNat=nQ c:=by omega
   rw [ej] at o R S;obtain ⟨O,F,o9,⟨F2,b2,b8⟩,_⟩:=o.fst;have Y:Has A ((dD 1 eP (n9 (tK X l) q).parts g).star ((dD 1 eP (n9 (tK X l) q).procs u).star (wI c own (nQ c) (nP c)))) O:=⟨F,F2,b2,b8⟩;have b1:=Z.mono F;have a9:∀p:Nat,∃M:List bu,∀y,ci[p]? =some y->mj O y.Code M/\M.map bL=gz c p:=λp=>by
    cases L:ci[p]? with
    | none=>simp
    | some y=>obtain ⟨cz,b7,_,M,h1,h2⟩:=P.get L;refine ⟨M,λy' e=> ?_⟩;cases e;exact ⟨Rw.mono F h1,by rw [h2];unfold gz;rw [b7];rfl⟩
   obtain ⟨ins,a9⟩:=Classical.axiomOfChoice a9;refine hq ⟨c,n9 (tK X l) q,w,sp,g,u,own,code,ins⟩ pm m O k8 rfl ?_ (Hp.le_trans (Hp.le_trans U V) F) ?_ (λi id J=> ?_)
   ·refine ⟨I,hu,?_,by rw [C];rfl,hT.mono (Hp.le_trans l5 F),by rw [C];rfl,⟨sl,sn,ph F hL,Rw.mono F hS⟩,hp,(Y.left.iq λ_=>rfl).map (f:=some) (enc:=λx=>be (aj.enc x)),R,(Y.right.left.iq λ_=>rfl).map (f:=some) (enc:=λx=>be (aj.enc x)),λi J=> ?_,λp hp=> ?_,λp hp=>G.eR⟩
    ·rw [C];exact b1
    ·exact ((Y.right.right.at_ J).iq λ_=>rfl)
    ·have c0:p<ci.length:=by have:p<nQ c:=hp;omega
     have L:=List.getElem?_eq_getElem c0;grind
   ·have et:qC (n9 (tK X l) q) (bh t).tick=n9 (tK X l) q:=by
     have e:X.tick=(bh t).tick:=by rw [C];exact b.tick
     rw [<-e];rfl
    unfold aD;dsimp only;rw [et];exact o9
   ·rw [S i id J];split
    ·rfl
    ·unfold mL;omega
end
section
variable {c:aV} {fl:Nat->Nat->Bool} {t:fz} {T:Int}
theorem Yw (m:cg c) (g:Good c fl (bh t) No No T) (hp:t.parts.length=nP c) (H:t.procs.length=nQ c):wg c t:=by
 have v:=g.pK m;have B:∀i x,t.parts[i]? =some x->i<nP c/\(bh t).part i=x:=λi x h=>⟨by grind,mK h⟩;have C:∀i x,t.procs[i]? =some x->i<nQ c/\(bh t).proc i=x:=λi x h=>⟨by grind,mK h⟩;have R:=m.an;refine ⟨hp,H,λx j=> ?_,λx j=> ?_⟩
 ·obtain ⟨i,b⟩:=List.mem_iff_getElem?.1 j;obtain ⟨a,rfl⟩:=B i x b;have sp:=v.part i a;have pm:=g.part i a;refine ⟨⟨⟨sp.gJ,by have:=pm.gJ;omega⟩,λo s=> ?_,λk o q s u=> ?_,λJ K q L n D S z d I=> ?_⟩,sp.jH⟩
  ·obtain ⟨k,E⟩:=List.mem_iff_getElem?.1 s;rcases g.own i a k o E with h | h<;>omega
  ·obtain ⟨w,y,A⟩:=g.iy i a k q u;refine ⟨sp.kf.2 q (List.mem_of_getElem? u),λe=> ?_,λz d=>⟨(y z d).1,λe=> ?_⟩,w⟩
   ·grind
   ·obtain ⟨W,n,_,Q⟩:=A (List.ne_nil_of_mem d);grind
  ·have M:=(g.iy i a J q n).2.1 z I;have N:=(g.iy i a K L D).2.1 z d;rcases M.2.2.2.2 with h | ⟨_,U,a1,_,a3⟩
   ·exact h
   ·rcases N.2.2.2.2 with h | ⟨_,V,O,_,P⟩
    ·exact h
    grind
 ·obtain ⟨p,G⟩:=List.mem_iff_getElem?.1 j;obtain ⟨f,rfl⟩:=C p x G;have sp:=v.proc p f;have pm:=g.proc p f;refine ⟨sp.len,sp.cur,λl r=> ?_,pm.mG.1,pm.mH.1⟩;obtain ⟨i,b⟩:=List.mem_iff_getElem?.1 r;have sl:=sp.dJ l r;exact ⟨(pm.dJ i l b).1,λF=>((g.dJ p f i l b).2.1 F).2.2,sl.taken,sl.dropped,sl.nd,sl.waiters⟩
end
section
variable {h:Hp}
theorem Ox {P:Program} {n:Int} {Q:Int->Int->Hp->Prop} (b:0<=n/\n<=8) (a:Q 0 n h):U7 P 1 n Q h:=by
 unfold U7;have:n=0\/n=1\/n=2\/n=3\/n=4\/n=5\/n=6\/n=7\/n=8:=by omega
 refine ⟨by decide,by decide,by decide,by decide,by decide,?_⟩;rcases this with rfl | rfl | rfl | rfl | rfl | rfl | rfl | rfl | rfl<;>exact a
theorem kM {v:Value}:∀ {n:Nat},fc [v] n=List.replicate n v
 | 0=>rfl
 | n+1=>by unfold fc;simp
theorem Cz :∀ {n:Nat} {v:Int},iV (List.replicate n (Value.int .i64 v))=true
 | 0,_=>rfl
 | n+1,v=>by rw [List.replicate_succ];show (iV [Value.int .i64 v]&&iV (List.replicate n (Value.int .i64 v)))=true;rw [Cz];rfl
theorem Uc {a:Addr} {v n:Int} {Q:Sl->Hp->Prop} (y:bp h a [.int .i64 v]) (w:0<=n/\n<=8) (p:∀l g,h<=g->Is g l (List.replicate n.toNat v)->Q l g):P8 prog ⟨some a,1,1⟩ n Q h:=by
 unfold P8;refine bU.direct ?_;rw [if_neg (by simp;omega)];refine Qe ?_;unfold Gs;refine OH ?_;rw [show IntKind.wrap .u64 (((⟨some a,1,1⟩:Sl).len:Nat):Int)=1 from rfl,show IntKind.wrap .u64 n=n from va ⟨by omega,by omega⟩];refine Ox w (bU.direct ?_);refine aK ?_;rw [show (decide ((0:Int)>0) || decide (n>9223372036854775807))=false by simp;omega,if_neg (by decide)];obtain ⟨m,rfl⟩:∃m:Nat,n=(m:Int):=⟨n.toNat,by omega⟩;rw [wrap64 (by omega) (by omega)];rw [Int.toNat_natCast] at p;refine ⟨⟨by omega,by omega,by omega,by omega⟩,λb ty hb=> ?_⟩;rw [Int.toNat_natCast,kM];have q:=lP (o:=.cells (List.replicate m (Value.int .i64 0)).toArray ty (0,0)) hb;have B:fN (h.set b (.cells (List.replicate m (Value.int .i64 0)).toArray ty (0,0))) b (List.replicate m (Value.int .i64 0)):=⟨ty,mI⟩;have cF:∀ {k d:Hp},h<=k->Mv [b] k [b] d->h<=d:=λu m c s e=>m.cF c s (u c s e) λG=>by grind
 refine DT (sz:=1) B (x:=⟨some a,1,1⟩) (n:=min 1 m) (new:=List.replicate (min 1 m) (Value.int .i64 v)) rfl ⟨by simp,?_⟩ Cz (by simp;omega) λJ E C=> ?_
 ·by_cases e:m=0
  ·omega
  ·refine .inr ⟨a,rfl,?_⟩;rw [show min 1 m=1 by omega];exact ph q y
 ·refine aA.intro (λ(i:Int) d=>∃j:Nat,i=(j:Int)/\j<=m/\(1<=j\/m=0)/\h<=d/\fN d b (List.replicate j (Value.int .i64 v)++List.replicate (m-j) (Value.int .i64 0))) (λi _=>(m-i).toNat) ⟨min 1 m,rfl,by omega,by omega,cF q E,by simpa using C⟩ ?_;rintro i z ⟨j,rfl,H,I,r,f⟩;by_cases t:j<m
  ·rw [if_pos (decide_eq_true (by grind))];refine ⟨⟨by omega,by grind⟩,aK ⟨⟨by omega,by grind⟩,aK ?_⟩⟩;rw [Int.toNat_natCast];dsimp only;rw [tA (by omega),xo,Nat.zero_add,Nat.mul_one];refine DT (sz:=1) f (n:=min j (m-j)) (new:=List.replicate (min j (m-j)) (Value.int .i64 v)) rfl ?_ Cz (by simp;omega) λA F D=> ?_
   ·refine f.rd (by simp) ?_;grind
   ·rw [wrap64 (by omega) (by omega)];refine ⟨⟨j+min j (m-j),by omega,by omega,by omega,cF r F,cast (congrArg (fN A b) ?_) D⟩,by omega⟩;rw [List.take_append_of_le_length (by simp),List.take_of_length_le (by simp),List.drop_append,List.drop_eq_nil_of_le (by simp),List.nil_append,List.drop_replicate,List.length_replicate,List.replicate_append_replicate];congr 2;omega
  ·rw [if_neg (λe=>t (by grind))];have:j=m:=by omega
   subst this;refine p _ z r ⟨by simp,by rw [List.flatMap_replicate];show (fc [Value.int .i64 v] j).length=_;rw [kM];simp,?_⟩;by_cases e:j=0
   ·grind
   ·refine .inr ⟨⟨b,0,none⟩,rfl,?_⟩;rw [Nat.sub_self] at f;refine f.na (off:=0) (n:=j) ?_;rw [List.drop_zero,List.replicate_zero,List.append_nil,List.take_of_length_le (by simp),List.flatMap_replicate];exact kM.symm
end
section
variable {h0 h1 k:Hp} {A:dB}
theorem DO {h:Hp} {b c:Nat} {d:Obj} (a:c≠b):(h.set b d) c=h c:=by simp [Hp.set,a]
theorem DP {cs:List Value} {K:Addr->Hp->Prop} (o:Has h1 A k) (m:∀a f i,h1<=f->bp f a cs->Has f A i->K a i):bD cs K k:=by
 intro b t hb;obtain ⟨h,F,a,l⟩:=o;have j:h1 b=none:=sK h hb;refine m _ (h1.set b (.cells cs.toArray t (0,0))) _ (lP j) Et ⟨λc n e=> ?_,F,A.same a λc d=> ?_,λc d=> ?_⟩
 ·by_cases g:c=b
  ·subst g;rw [mI] at e ⊢;exact e
  ·rw [DO g] at e ⊢;exact h c n e
 ·have:c≠b:=λe=>A.known a c d (by rw [e];exact hb);exact DO this
 ·have:c≠b:=λe=>A.known a c d (by rw [e];exact hb);rw [DO this];exact l c d
theorem Kk {e:Type} {sz bytes:Nat} {enc:e->List Value} {zero:List Value} {z:e} {n:Int} {K:Sl->Hp->Prop} (o:Has h1 A k) (i:zero=enc z) (f:∀x,(enc x).length=sz) (p:0<=n/\n<=1000) (hb:bytes<=1000)
  (g:∀l d c,h1<=d->Rw d sz enc l (List.replicate n.toNat z)->Has d A c->K l c):c9 bytes zero n n K k:=by
 have m:n.toNat*bytes<=1000*1000:=Nat.mul_le_mul (by omega) hb;refine ⟨⟨by omega,by omega,by omega,by omega⟩,λb t hb=> ?_⟩;refine DP (cs:=fc zero n.toNat) (K:=λa c=>K ⟨some a,n.toNat,n.toNat⟩ c) o (λa d c l h j=>g _ d c l ⟨by simp,?_,.inr ⟨a,rfl,?_⟩⟩ j) b t hb
 ·rw [List.flatMap_replicate,List.length_flatten,List.map_replicate,f,List.sum_replicate_nat,List.length_replicate]
 ·rw [List.flatMap_replicate,<-i];exact h
theorem qM {d:Type} {sz bytes:Nat} {enc:d->List Value} {zero:List Value} {z:d} {n:Int} {K:Sl->Hp->Prop} (j:zero=enc z) (h:∀x,(enc x).length=sz) (o:0<=n/\n<=1000) (hb:bytes<=1000)
  (i:∀l a,k<=a->Has k (eM sz enc l (List.replicate n.toNat z)) a->K l a):c9 bytes zero n n K k:=by
 have m:n.toNat*bytes<=1000*1000:=Nat.mul_le_mul (by omega) hb;refine ⟨⟨by omega,by omega,by omega,by omega⟩,λb t hb=> ?_⟩;have e:(List.replicate n.toNat z).flatMap enc=fc zero n.toNat:=by rw [List.flatMap_replicate,j];rfl
 have f:(fc zero n.toNat).length=n.toNat*sz:=by rw [<-e,List.flatMap_replicate,List.length_flatten,List.map_replicate,h,List.sum_replicate_nat]
 refine i _ _ (lP hb) ⟨lP hb,λc=>c=b,⟨[b],⟨by rw [List.length_replicate],Nat.le_refl _,.inr ⟨b,fc zero n.toNat,rfl,rfl,⟨t,mI⟩,f,?_⟩⟩,λc=>by simp⟩,λc g=>by rw [g];exact hb⟩;grind
end
abbrev eX :bx->List Value:=λx=>be (aY.enc x)
abbrev eY :aR->List Value:=λx=>be (aE.enc x)
def zX :bx:=⟨0,⟨none,0,0⟩,0,0,⟨none,0,0⟩,⟨none,0,0⟩⟩
def zY :aR:=⟨0,0,0,0,0,0,0,0,0,0,0,0,false,0,⟨none,0,0⟩⟩
def zL :bw:=⟨⟨none,0,0⟩,⟨none,0,0⟩,0,0⟩
def vO (an:Int):cY:=⟨0,[],0,0,List.replicate an.toNat (-1),List.replicate an.toNat []⟩
def vP (n:Nat):ai:=⟨0,0,List.replicate 8 0,0,0,false,0,List.replicate n ⟨[],[],0,0⟩⟩
theorem Em {c d:Type} {R:c->d->Prop} {a:c} {b:d} (h:R a b):∀ {n:Nat},cM R (List.replicate n a) (List.replicate n b)
 | 0=>trivial
 | n+1=>⟨h,Em h⟩
theorem yd {c d:Type} {R:c->d->Prop} {a:c} {b:d} (h:R a b):∀ {l:List c} {m:List d},cM R l m->cM R (l++ [a]) (m++ [b])
 | [],[],_=>⟨h,trivial⟩
 | _::_,_::_,k=>⟨k.1,yd h k.2⟩
section
variable {h0 hb k:Hp} {r r1:Sl} {i:Nat}
theorem Has.rm {sz:Nat} {sh:Shape} {l:Sl} {b:List sh.T} (o:Has h0 (eM sz (λx=>be (sh.enc x)) l b) k) (a:∀x,(be (sh.enc x)).length=sz) (c:0<sz) (d:i<b.length):bB l.base l.len (i:Int):=
 (Rs.get (sh:=sh) (K:=λ_=>True) (o.fJ a) a c (by omega) (by omega) λ_ _=>trivial).1
theorem aau {rows:List bx} {an:Int} {K:Hp->Prop} {B:dB} (o:Has hb ((eM 6 eX r rows).star B) k) (hi:rows[i]? =some zX) (S:0<=an/\an<=8)
  (hk:∀x c b,hb<=c->fe c x (vO an)->Has c ((eM 6 eX r (rows.set i x)).star B) b->K b):
  (bD [(.int .i64 (-1:Int))] (λa M=>
 ((True/\(True/\(True/\(True/\True))))/\(aa prog sH [(.slice (some a) 1 1),(.int .i64 an)] ak (λr2 G=>
 ((True/\(True/\(True/\True)))/\((bB r.base r.len (i:Int))/\(c9 24 [(.slice none 0 0)] an an (λE w=>
 ((True/\(True/\True))/\cD w (Addr.add (sat r.base 6 (i:Int)) 4) [r2.v] (λy=>
 ((True/\True)/\((bB r.base r.len (i:Int))/\cD y (Addr.add (sat r.base 6 (i:Int)) 5) [E.v] (λA=>
 K A)))))) G/\cD G (Addr.add (sat r.base 6 (i:Int)) 4) [r2.v] (λw=>
 ((True/\(True/\True))/\c9 24 [(.slice none 0 0)] an an (λE y=>
 ((True/\(True/\True))/\((bB r.base r.len (i:Int))/\cD y (Addr.add (sat r.base 6 (i:Int)) 5) [E.v] (λA=>
 K A)))) w)))))) M/\c9 24 [(.slice none 0 0)] an an (λr2 G=>
 ((True/\(True/\(True/\True)))/\aa prog sH [(.slice (some a) 1 1),(.int .i64 an)] ak (λE w=>
 ((True/\(True/\(True/\True)))/\((bB r.base r.len (i:Int))/\cD w (Addr.add (sat r.base 6 (i:Int)) 4) [E.v] (λy=>
 ((True/\(True/\True))/\((bB r.base r.len (i:Int))/\cD y (Addr.add (sat r.base 6 (i:Int)) 5) [r2.v] (λA=>
 K A))))))) G)) M))) k/\c9 24 [(.slice none 0 0)] an an (λr2 M=>
 ((True/\(True/\(True/\True)))/\bD [(.int .i64 (-1:Int))] (λa G=>
 ((True/\(True/\(True/\(True/\True))))/\aa prog sH [(.slice (some a) 1 1),(.int .i64 an)] ak (λE w=>
 ((True/\(True/\(True/\True)))/\((bB r.base r.len (i:Int))/\cD w (Addr.add (sat r.base 6 (i:Int)) 4) [E.v] (λy=>
 ((True/\(True/\True))/\((bB r.base r.len (i:Int))/\cD y (Addr.add (sat r.base 6 (i:Int)) 5) [r2.v] (λA=>
 K A))))))) G)) M)) k):=by
 have R:i<rows.length:=(List.getElem?_eq_some_iff.1 hi).1;have L:∀ {c b:Hp} {d g:Sl},hb<=c->Is c d (List.replicate an.toNat (-1))->Rw c 1 (λx=>be (ak.enc x)) g (List.replicate an.toNat (⟨none,0,0⟩:Sl))->Has c ((eM 6 eX r ((rows.set i {zX with dm:=d}).set i {zX with dm:=d,eN:=g})).star B) b->K b:=λ{c b d g} S m n h=>by rw [List.set_set] at h;exact hk _ c b S ⟨rfl,⟨[],Rw.nil rfl,rfl⟩,rfl,rfl,m,_,n,Em (Rw.nil rfl)⟩ h
 have O:∀ {c b:Hp} {d:Sl} {f:Hp->Prop},Has c ((eM 6 eX r rows).star B) b->(∀p,Has c ((eM 6 eX r (rows.set i {zX with dm:=d})).star B) p->f p)->cD b ((sat r.base 6 (i:Int)).add 4) [d.v] f:=λ{c b d f} h I=>by obtain ⟨m,_,X,_,put⟩:=h.fst;exact X.pH (i:=i) (x':={zX with dm:=d}) (off:=4) (new:=[d.v]) (λ_=>rfl) hi (by simp) rfl λp W=>I p (put _ _ W)
 have P:∀ {c b:Hp} {d g:Sl} {f:Hp->Prop},Has c ((eM 6 eX r (rows.set i {zX with dm:=d})).star B) b->(∀p,Has c ((eM 6 eX r ((rows.set i {zX with dm:=d}).set i {zX with dm:=d,eN:=g})).star B) p->f p)->cD b ((sat r.base 6 (i:Int)).add 5) [g.v] f:=λ{c b d g f} h I=>by obtain ⟨m,_,X,_,put⟩:=h.fst;exact X.pH (i:=i) (x:={zX with dm:=d}) (x':={zX with dm:=d,eN:=g}) (off:=5) (new:=[g.v]) (λ_=>rfl) (List.getElem?_set_self R) (by simp) rfl λp W=>I p (put _ _ W)
 have rm:∀ {c b:Hp} {b0:List bx},b0.length=rows.length->Has c ((eM 6 eX r b0).star B) b->bB r.base r.len (i:Int):=λe h=>(Has.left h).rm (sh:=aY) (λ_=>rfl) (by decide) (by omega);have mk:∀ {c b:Hp} {F:dB} {f:Sl->Hp->Prop},Has c F b->(∀l u b,c<=u->Rw u 1 (λx=>be (ak.enc x)) l (List.replicate an.toNat (⟨none,0,0⟩:Sl))->Has u F b->f l b)->c9 24 [(.slice none 0 0)] an an f b:=λh I=>Kk (z:=(⟨none,0,0⟩:Sl)) (enc:=λx=>be (ak.enc x)) h rfl (λ_=>rfl) (by omega) (by omega) I;have Y:∀ {c b:Hp} {F:dB} {a:Addr} {f:Sl->Hp->Prop},Has c F b->bp c a [.int .i64 (-1)]->(∀l u b,c<=u->Is u l (List.replicate an.toNat (-1))->Has u F b->f l b)->aa prog sH [(.slice (some a) 1 1),(.int .i64 an)] ak f b:=λ{c b F a f} h H I=>by refine tO (sh:=ak) (K0:=λl Q=>c<=Q/\Is Q l (List.replicate an.toNat (-1))) h (zsq (x:=⟨some a,1,1⟩) (Uc H S λl Q b2 R=>⟨b2,R⟩)) ?_;grind
 refine ⟨?_,?_⟩
 ·refine DP o λa b1 k1 J H N=> ?_;refine ⟨⟨trivial,trivial,trivial,trivial,trivial⟩,?_,?_⟩
  ·refine Y N H λd Z k2 s m C=> ?_;refine ⟨⟨trivial,trivial,trivial,trivial⟩,rm rfl C,?_,?_⟩
   ·refine mk C λg a8 T t n q=> ?_;refine ⟨⟨trivial,trivial,trivial⟩,O q λU j=>⟨⟨trivial,trivial⟩,rm (by simp) j,P j λV D=>L (Hp.le_trans J (Hp.le_trans s t)) (Rw.mono t m) n D⟩⟩
   ·refine O C λT q=>⟨⟨trivial,trivial,trivial⟩,?_⟩;refine mk q λg b3 U a9 n j=> ?_;exact ⟨⟨trivial,trivial,trivial⟩,rm (by simp) j,P j λV D=>L (Hp.le_trans J (Hp.le_trans s a9)) (Rw.mono a9 m) n D⟩
  ·refine mk N λg Z k2 s n C=> ?_;refine ⟨⟨trivial,trivial,trivial,trivial⟩,?_⟩;refine Y C (ph s H) λd a8 T t m q=> ?_;exact ⟨⟨trivial,trivial,trivial,trivial⟩,rm rfl q,O q λU j=>⟨⟨trivial,trivial,trivial⟩,rm (by simp) j,P j λV D=>L (Hp.le_trans J (Hp.le_trans s t)) m (Rw.mono t n) D⟩⟩
 ·refine mk o λg b1 k1 J n N=> ?_;refine ⟨⟨trivial,trivial,trivial,trivial⟩,?_⟩;refine DP N λa Z k2 s H C=> ?_;refine ⟨⟨trivial,trivial,trivial,trivial,trivial⟩,?_⟩;refine Y C H λd a8 T t m q=> ?_;exact ⟨⟨trivial,trivial,trivial,trivial⟩,rm rfl q,O q λU j=>⟨⟨trivial,trivial,trivial⟩,rm (by simp) j,P j λV D=>L (Hp.le_trans J (Hp.le_trans s t)) m (Rw.mono t (Rw.mono s n)) D⟩⟩
theorem aav {rows:List aR} {n:Int} {K:Hp->Prop} {B:dB} (o:Has hb (B.star (eM 15 eY r1 rows)) k) (b:rows[i]? =some zY) (w:1<=n/\n<=100)
  (m:∀x a c,hb<=a->cN a x (vP n.toNat)->Has a (B.star (eM 15 eY r1 (rows.set i x))) c->K c):
  c9 64 [(.slice none 0 0),(.slice none 0 0),(.int .i64 (0:Int)),(.int .i64 (0:Int))] n n (λr2 f=>
 ((True/\True)/\((bB r1.base r1.len (i:Int))/\cD f (Addr.add (sat r1.base 15 (i:Int)) 14) [r2.v] (λg=>
 K g)))) k:=by
 have j:i<rows.length:=(List.getElem?_eq_some_iff.1 b).1;refine Kk (sz:=4) (z:=zL) (enc:=λx=>be (bd.enc x)) o rfl (λ_=>rfl) (by omega) (by omega) λl h y q e d=> ?_;refine ⟨⟨trivial,trivial⟩,(Has.right d).rm (sh:=aE) (λ_=>rfl) (by decide) j,?_⟩;obtain ⟨u,_,t,_,put⟩:=d.snd;refine t.pH (i:=i) (x':={zY with gB:=l}) (off:=14) (new:=[l.v]) (λ_=>rfl) b (by simp) rfl λp s=>m _ h p q ⟨rfl,rfl,rfl,rfl,rfl,rfl,rfl,_,e,Em ⟨Rw.nil rfl,⟨[],Rw.nil rfl,rfl⟩,rfl,rfl⟩⟩ (put _ _ s)
theorem Ib {x:ay} {c:aV} {Q:aL->Hp->Prop} (a:dN h0 x c) (N:cg c) (o:Has h0 ((eM 6 eX r (List.replicate (nP c) zX)).star (eM 15 eY r1 (List.replicate (nQ c) zY))) k)
  (U:∀y d,h0<=d->db d y ((pP c).list c)->Q y d):aA (α1:=Int) (λP b G=>
 (if (decide (b<((r.len:Nat):Int)))=true then
 bU (λk=>
 (bD [(.int .i64 (-1:Int))] (λa g=>
 ((True/\(True/\(True/\(True/\True))))/\(aa prog sH [(.slice (some a) 1 1),(.int .i64 x.cf)] ak (λr2 m=>
 ((True/\(True/\(True/\True)))/\((bB r.base r.len b)/\(c9 24 [(.slice none 0 0)] x.cf x.cf (λu l=>
 ((True/\(True/\True))/\cD l (Addr.add (sat r.base 6 b) 4) [r2.v] (λq=>
 ((True/\True)/\((bB r.base r.len b)/\cD q (Addr.add (sat r.base 6 b) 5) [u.v] (λs=>
 k s)))))) m/\cD m (Addr.add (sat r.base 6 b) 4) [r2.v] (λl=>
 ((True/\(True/\True))/\c9 24 [(.slice none 0 0)] x.cf x.cf (λu q=>
 ((True/\(True/\True))/\((bB r.base r.len b)/\cD q (Addr.add (sat r.base 6 b) 5) [u.v] (λs=>
 k s)))) l)))))) g/\c9 24 [(.slice none 0 0)] x.cf x.cf (λr2 m=>
 ((True/\(True/\(True/\True)))/\aa prog sH [(.slice (some a) 1 1),(.int .i64 x.cf)] ak (λu l=>
 ((True/\(True/\(True/\True)))/\((bB r.base r.len b)/\cD l (Addr.add (sat r.base 6 b) 4) [u.v] (λq=>
 ((True/\(True/\True))/\((bB r.base r.len b)/\cD q (Addr.add (sat r.base 6 b) 5) [r2.v] (λs=>
 k s))))))) m)) g))) G/\c9 24 [(.slice none 0 0)] x.cf x.cf (λr2 g=>
 ((True/\(True/\(True/\True)))/\bD [(.int .i64 (-1:Int))] (λa m=>
 ((True/\(True/\(True/\(True/\True))))/\aa prog sH [(.slice (some a) 1 1),(.int .i64 x.cf)] ak (λu l=>
 ((True/\(True/\(True/\True)))/\((bB r.base r.len b)/\cD l (Addr.add (sat r.base 6 b) 4) [u.v] (λq=>
 ((True/\(True/\True))/\((bB r.base r.len b)/\cD q (Addr.add (sat r.base 6 b) 5) [r2.v] (λs=>
 k s))))))) m)) g)) G))
 (λg=>
 P (yw (b+(1:Int))) g)
 else
 aA (α1:=Int) (λR E g=>
 (if (decide (E<((r1.len:Nat):Int)))=true then
 c9 64 [(.slice none 0 0),(.slice none 0 0),(.int .i64 (0:Int)),(.int .i64 (0:Int))] (yw (((x.bn.len:Nat):Int)+(1:Int))) (yw (((x.bn.len:Nat):Int)+(1:Int))) (λr2 m=>
 ((True/\True)/\((bB r1.base r1.len E)/\cD m (Addr.add (sat r1.base 15 E) 14) [r2.v] (λl=>
 R (yw (E+(1:Int))) l)))) g
 else
 Q ⟨(0:Int),r,r1⟩ g)) (0:Int) G)) (0:Int) k:=by
 have a8:=N.parts;have a9:=N.procs;have Y:nP c=c.labels.length:=rfl;have Z:x.bn.len=c.labels.length:=a.labels.1;have W:r.len=nP c:=by have:=(Has.left o).uN.gr;grind
 have X:r1.len=nQ c:=by have:=(Has.right o).uN.gr;grind
 refine aA.intro (λ(t:Int) d=>0<=t/\t<=(nP c:Int)/\∃hb done,h0<=hb/\cM (fe hb) done (List.replicate t.toNat (vO c.an))/\Has hb ((eM 6 eX r (done++List.replicate (nP c-t.toNat) zX)).star (eM 15 eY r1 (List.replicate (nQ c) zY))) d) (λt _=>(nP c-t).toNat) ⟨by omega,by omega,h0,[],Hp.le_refl _,trivial,by simpa using o⟩ ?_;rintro t k1 ⟨t0,t1,hb,done,lb,hd,o1⟩;have O:=hd.len;rw [List.length_replicate] at O;by_cases h:t<(nP c:Int)
 ·rw [if_pos (decide_eq_true (by omega))];have A:((t.toNat:Nat):Int)=t:=by omega
  refine bU.direct ?_;have J:(done++List.replicate (nP c-t.toNat) zX)[t.toNat]? =some zX:=by grind
  rw [a.an];have key:=aau (i:=t.toNat) (r:=r) (K:=λd=>(0<=yw (t+1)/\yw (t+1)<=(nP c:Int)/\∃hb done,h0<=hb/\cM (fe hb) done (List.replicate (yw (t+1)).toNat (vO c.an))/\Has hb ((eM 6 eX r (done++List.replicate (nP c-(yw (t+1)).toNat) zX)).star (eM 15 eY r1 (List.replicate (nQ c) zY))) d)/\(nP c-yw (t+1)).toNat<(nP c-t).toNat) o1 J N.an λy H d w C D=>by
   rw [wrap64 (by omega) (by omega),show (t+1).toNat=t.toNat+1 by omega];refine ⟨⟨by omega,by omega,H,done++ [y],Hp.le_trans lb w,?_,?_⟩,by omega⟩
   ·rw [List.replicate_succ'];exact yd C (hd.imp λ_ _ e=>e.mono w)
   ·rw [List.set_append_right _ _ (by omega),O,Nat.sub_self,show nP c-t.toNat=(nP c-(t.toNat+1))+1 by omega,List.replicate_succ,List.set_cons_zero] at D;grind
  rw [A] at key;exact key
 ·rw [if_neg (λe=>h (by grind))];have A:t.toNat=nP c:=by omega
  rw [A,Nat.sub_self,List.replicate_zero,List.append_nil] at o1;rw [A] at hd;refine aA.intro (λ(j:Int) d=>0<=j/\j<=(nQ c:Int)/\∃p f,hb<=p/\cM (cN p) f (List.replicate j.toNat (vP (nP c+1)))/\Has p ((eM 6 eX r done).star (eM 15 eY r1 (f++List.replicate (nQ c-j.toNat) zY))) d) (λj _=>(nQ c-j).toNat) ⟨by omega,by omega,hb,[],Hp.le_refl _,trivial,by simpa using o1⟩ ?_;rintro j V ⟨j0,j1,p,f,L,B,z⟩;have I:=B.len;rw [List.length_replicate] at I;by_cases T:j<(nQ c:Int)
  ·rw [if_pos (decide_eq_true (by omega))];have F:((j.toNat:Nat):Int)=j:=by omega
   have J:(f++List.replicate (nQ c-j.toNat) zY)[j.toNat]? =some zY:=by rw [List.getElem?_append_right (by omega),I,Nat.sub_self,List.getElem?_replicate,if_pos (by omega)]
   rw [wrap64 (n:=(x.bn.len:Int)+1) (by omega) (by omega)];have S:((x.bn.len:Int)+1).toNat=nP c+1:=by omega
   have key:=aav (i:=j.toNat) (r1:=r1) (n:=(x.bn.len:Int)+1) (K:=λd=>(0<=yw (j+1)/\yw (j+1)<=(nQ c:Int)/\∃p f,hb<=p/\cM (cN p) f (List.replicate (yw (j+1)).toNat (vP (nP c+1)))/\Has p ((eM 6 eX r done).star (eM 15 eY r1 (f++List.replicate (nQ c-(yw (j+1)).toNat) zY))) d)/\(nQ c-yw (j+1)).toNat<(nQ c-j).toNat) z J (by omega) λy H d w C D=>by
    rw [wrap64 (by omega) (by omega),show (j+1).toNat=j.toNat+1 by omega];refine ⟨⟨by omega,by omega,H,f++ [y],Hp.le_trans L w,?_,?_⟩,by omega⟩
    ·rw [List.replicate_succ'];rw [S] at C;exact yd C (B.imp λ_ _ e=>e.mono w)
    ·rw [List.set_append_right _ _ (by omega),I,Nat.sub_self,show nQ c-j.toNat=(nQ c-(j.toNat+1))+1 by omega,List.replicate_succ,List.set_cons_zero] at D;rw [List.append_assoc];exact D
   grind
  ·rw [if_neg (λe=>T (by grind))];have F:j.toNat=nQ c:=by omega
   rw [F,Nat.sub_self,List.replicate_zero,List.append_nil] at z;rw [F] at B;have M:=z.le;refine U _ V (Hp.le_trans lb (Hp.le_trans L M)) ⟨rfl,⟨done,(Has.left z).fJ λ_=>rfl,?_⟩,f,(Has.right z).fJ λ_=>rfl,?_⟩
   ·have e:((pP c).list c).parts=List.replicate (nP c) (vO c.an):=by show (List.range (nP c)).map (λ_=>vO c.an)=_;rw [List.map_const',List.length_range]
    rw [e];exact hd.imp λ_ _ e=>e.mono (Hp.le_trans L M)
   ·have e:((pP c).list c).procs=List.replicate (nQ c) (vP (nP c+1)):=by show (List.range (nQ c)).map (λ_=>vP (nP c+1))=_;rw [List.map_const',List.length_range]
    rw [e];exact B.imp λ_ _ e=>e.mono M
theorem WQ {x:ay} {c:aV} {Q:aL->Hp->Prop} (a:dN k x c) (e:cg c) (g:∀y f,k<=f->db f y ((pP c).list c)->Q y f):Xt prog x Q k:=by
 unfold Xt;have v:=e.parts;have C:=e.procs;have t:nP c=c.labels.length:=rfl;have B:nQ c=c.procs.length:=rfl;have u:x.bn.len=c.labels.length:=a.labels.1;obtain ⟨s,j,h⟩:=a.procs;have w:=h.len;have A:x.aO.len=s.length:=j.1;refine ⟨?_,?_⟩
 ·refine qM (sz:=6) (z:=zX) (enc:=eX) rfl (λ_=>rfl) (by omega) (by omega) λl m o b=>⟨⟨trivial,trivial⟩,?_⟩;refine qM (sz:=15) (z:=zY) (enc:=eY) rfl (λ_=>rfl) (by omega) (by omega) λp n q d=> ?_;rw [show ((x.bn.len:Int)).toNat=nP c by omega] at b;rw [show ((x.aO.len:Int)).toNat=nQ c by omega] at d;exact Ib a e (b.beside d) g
 ·refine qM (sz:=15) (z:=zY) (enc:=eY) rfl (λ_=>rfl) (by omega) (by omega) λp m o b=>⟨⟨trivial,trivial⟩,?_⟩;refine qM (sz:=6) (z:=zX) (enc:=eX) rfl (λ_=>rfl) (by omega) (by omega) λl n q d=>⟨⟨trivial,trivial⟩,?_⟩;rw [show ((x.bn.len:Int)).toNat=nP c by omega] at d;rw [show ((x.aO.len:Int)).toNat=nQ c by omega] at b;exact Ib a e (b.beside d).comm g
end
end Lf
namespace Go.Proofs
open Go.RowKit Go.Shelf
attribute [local go_sem] Oper.semAt_some
def uX (cur len:Int) (j:Nat):Int:=(wrap64 (cur+(j:Int))).tmod len
abbrev Fc (len:Nat):={x:Int // 0<=x/\x<(len:Int)}
def nz {a:Type} (num:Nat->a) (k:Nat):List a:=(List.range k).map num
theorem j4 {a:Type} {num:Nat->a} {k:Nat}:nz num (k+1)=nz num k++ [num k]:=by simp [nz,List.range_succ]
theorem ZO {a:Type} {num:Nat->a} {k:Nat}:(nz num k).length=k:=by simp [nz]
set_option maxHeartbeats 2000000 in
theorem Ud (n:Nat) (hn:1<=n) (l A A1:Nat) (cur:Int) (len:Nat) (hlen:0<len) (hl2:len<=1000) (num:Nat->Fc len) (hnum:∀j,j<len->uX cur len j=(num j).1) (Kp:World->World->Prop) (hkp:∀W W',Kp W W'->W'.cell? ⟨A,0,none⟩=W.cell? ⟨A,0,none⟩/\W'.cell? ⟨A1,0,none⟩=W.cell? ⟨A1,0,none⟩) (J Jx:List (Fc len)->World->Prop)
  (hY:∀pre x W,J pre W->pre.length<len->YieldAt Fence.wide (n-1) Tryz.prog l #[.int .i64 x.1] W λe W'=>
   (e=.returned (.bool true)/\J (pre++ [x]) W'/\Kp W W')\/(e=.returned (.bool false)/\Jx (pre++ [x]) W'))
  (W:World) (hA:W.cell? ⟨A,0,none⟩=some (.int .i64 cur)) (hA1:W.cell? ⟨A1,0,none⟩=some (.int .i64 (len:Int))) (h0:J [] W):
  CallsIn Fence.wide n Tryz.prog 242 #[.func (.yield l) #[] #[],.pointer (some ⟨A1,0,none⟩),.pointer (some ⟨A,0,none⟩)] W λe W'=>(∃v,e=.returned v)/\
   ((∃ys,ys=nz num len/\J ys W')\/(∃pre,(∃k,k<=len/\pre=nz num k)/\Jx pre W')):=by
 refine callsIn_of_wp Tryz.func242 rfl trivial ?_ rfl;simp only [Tryz.ntmps242,List.size_toArray,List.length_cons,List.length_nil,Nat.reduceAdd,Nat.reduceSub,Array.replicate_succ,Array.replicate_zero,List.push_toArray,List.append_toArray,List.nil_append,List.cons_append]
 gi_wp2
 gi_loopw [6] (λi wr=>∃k:Nat,k<=len/\i=.int .i64 (k:Int)/\J (nz num k) wr/\wr.cell? ⟨A,0,none⟩=some (.int .i64 cur)/\wr.cell? ⟨A1,0,none⟩=some (.int .i64 (len:Int)))
  (λi _=>len-(intOf i).toNat)
 case atStart=>exact ⟨0,Nat.zero_le _,rfl,h0,hA,hA1⟩
 case round=>
  obtain ⟨k,hk,rfl,hJs,hcA,hcA1⟩:=hrel;by_cases hlt:k<len
  ·obtain ⟨fn,tmps,assign,body,hy,hR⟩:=hY _ (num k) wr hJs (by rw [ZO];exact hlt);rw [<-hnum k hlt] at hy;unfold uX at hy
   gi_wp2
   refine hR.mono ?_;rintro e W3 (⟨rfl,hJ3,hk3⟩ | ⟨rfl,hJx3⟩)
   ·gi_wp2
    go_roundw
    case rel=>exact ⟨k+1,by omega,by simp,by rw [j4];exact hJ3,(hkp _ _ hk3).1.trans hcA,(hkp _ _ hk3).2.trans hcA1⟩
    case measure=>simp [intOf];omega
   ·gi_wp2
    refine bodyPost_ret (results_none rfl _ _ _) rfl ?_;exact ⟨⟨_,rfl⟩,.inr ⟨_,⟨k+1,by omega,j4.symm⟩,hJx3⟩⟩
  ·obtain rfl:k=len:=by omega
   gi_wp2
   go_end0
   exact ⟨⟨_,rfl⟩,.inl ⟨_,rfl,hJs⟩⟩
end Go.Proofs
namespace Lf
open Go Go.Proofs Tryz
noncomputable def lj :Code:=match vI f209 with
 | .seq _ (.scope (.seq _ (.seq _ (.seq _ t))))=>t
 | _=>.skip
def sB :List Nat:=[1,3,4]
def yY :bt:=.sq .tt (.sq (.rg [(0,[]),(1,[]),(2,[]),(3,[]),(4,[]),(5,[]),(6,[]),(7,[]),(8,[]),(9,[]),(10,[]),(11,[])]) (.sq (.rg [(0,[]),(1,[]),(2,[]),(3,[]),(4,[]),(5,[]),(6,[]),(7,[]),(8,[]),(9,[]),(10,[]),(11,[]),(12,[]),(13,[]),(14,[]),(15,[]),(16,[])]) (.sq (.rg [(0,[]),(1,[]),(2,[]),(3,[]),(4,[]),(5,[]),(6,[2]),(7,[]),(8,[]),(9,[])]) .tt)))
noncomputable def uU :Ctx:=⟨prog,tb,sB⟩
def jZ (p:Option Addr) (lane:Int):St where
 f:=λt=>match t with
  | 1=>some (.box 1 0,[])
  | 2=>some (.v (.int .i64 0),[])
  | 3=>some (.box 3 0,[])
  | 4=>some (.box 4 0,[])
  | 5=>some (.v (.bool false),[])
  | 6=>some (.v (.int .i64 0),[])
  | _=>none
 m:=λk=>match k with
  | 1=>some [.pointer p]
  | 3=>some [.int .i64 lane]
  | 4=>some [.int .i64 0,.int .i64 0]
  | _=>none
noncomputable def FO (K:(bP tb f209.resultTypes.toList).T->Hp->Prop):Env:=λe s h=>match e with
 | .fS | .ret=>th uU s h f209.results.toList f209.resultTypes.toList K
 | _=>False
noncomputable def qB (p:Option Addr) (lane:Int) (K:(bP tb f209.resultTypes.toList).T->Hp->Prop) (h:Hp):Prop:=
 liftM uU lj .full yY sB (jZ p lane) (FO K) h
end Lf
namespace Go.Proofs
open Go.RowKit Go.Shelf
attribute [local go_sem] Oper.semAt_some
theorem tx {w:World} {o:Obj} {b:Nat}:(w.alloc o).heap[b]? =if b=w.heap.size then some o else w.heap[b]?:=by show (w.heap.push o)[b]? =_;grind
theorem B9 {W:World} {b i:Nat} {a:Array Value} {t:TypeId} (h:W.heap[b]? =some (.cells a t (0,0))):W.cell? ⟨b,i,none⟩=a[i]?:=by simp [World.cell?,h]
theorem xG {W a:World} {b i:Nat} (h:a.heap[b]? =W.heap[b]?):a.cell? ⟨b,i,none⟩=W.cell? ⟨b,i,none⟩:=by simp [World.cell?,h]
structure A2 (B c:Nat) (W2:World) (v:Int) (W:World):Prop where
 same:∀b,b<B->b≠c->W.heap[b]? =W2.heap[b]?
 box:W.heap[c]? =some (.cells #[.int .i64 v] 3)
 size:B<=W.heap.size
 os:W.os=W2.os
 tape:W.tape=W2.tape
 output:W.output=W2.output
theorem A2.grown {B c:Nat} {f W d:World} {v:Int} {row:Option Nat} (g:A2 B c f v W) (h:c<B) (a:W.grownBy d row) (j:∀r,row=some r->B<=r/\∃o:Obj,W.heap[r]? =some o/\o.isCells=false):A2 B c f v d:=by
 have key:∀b,b<B->d.heap[b]? =W.heap[b]?:=λb hb=>a.block b (Nat.lt_of_lt_of_le hb g.size) λe=>by grind
 exact ⟨λb hb i=>(key b hb).trans (g.same b hb i),(key c h).trans g.box,Nat.le_trans g.size a.size,a.os.trans g.os,a.tape.trans g.tape,a.output.trans g.output⟩
theorem Zk {n:Nat} {d:Nat->Nat} {s:Lf.St} {a:Act} {h:Lf.Hp} {w:World} {D:Nat} (r:Lf.Rel n d s a h w) (q:h D=none) (t:w.heap[D]? =some (.deferred (some []))) (o:Obj):Lf.Rel n d s a h (w.putObj D o) where
 sz:=r.sz
 sub:=λb p e=>by
  have c:b≠D:=λi=>by grind
  rw [World.putObj_heap_other c];exact r.sub b p e
 lt:=r.lt
 chain:=r.chain
 cur:=r.cur
 aH:=r.aH
 box:=λk f e m=>by
  obtain ⟨j,g,l⟩:=r.box k f e m;have c:d k≠D:=λi=>by grind
  exact ⟨j,g,by rw [World.putObj_heap_other c];exact l⟩
 inj:=r.inj
 ku:=r.ku
 jI:=r.jI
abbrev Dw (p:Addr) (w:World) (b c d a:Value):Array Value:= #[Value.pointer (some p),Value.pointer (some {block:=w.heap.size,off:=0}),Value.int IntKind.i64 0,Value.pointer (some {block:=w.heap.size+1,off:=0}),Value.pointer (some {block:=w.heap.size+1+1,off:=0}),Value.bool false,Value.int IntKind.i64 0,b,c,d,a,undef,undef,undef,undef,undef,undef,undef,undef,undef,undef,undef,undef,undef,undef,undef,undef,undef,undef,undef,undef,undef,undef,undef,undef,undef,undef,undef,undef,undef,undef,undef,undef,undef,undef,undef,undef,undef,undef,undef,undef,undef,undef]
theorem Yx {k:Lf.Hp} {p:Addr} {w W:World} {D:Nat} {v:Int} {R S U Q:Value} {K:(Lf.bP Lf.tb Tryz.f209.resultTypes.toList).T->Lf.Hp->Prop} (E:Lf.Sub k w)
  (s:Below w.heap.size w W) (b0:W.heap[w.heap.size]? =some (.cells #[.pointer (some p)] 138)) (b1:W.heap[w.heap.size+1]? =some (.cells #[.int .i64 v] 3)) (b2:W.heap[w.heap.size+2]? =some (.cells #[.int .i64 0,.int .i64 0] 191))
  (H:w.heap.size+3<=D) (I:W.heap[D]? =some (.deferred (some []))) (ht:Lf.qB (some p) v K k):
  Lf.lj.wp Tryz.prog (Exit.noGoto (bodyPostM Fence.wide 3 Tryz.prog Tryz.f209 λe y=>∃u g,e=.returned u/\(∃x,u=(Lf.bP Lf.tb Tryz.f209.resultTypes.toList).enc x/\K x g)/\Lf.Step k g w y))
   {tmps:=Dw p w R S U Q,defers:=[{target:=.collected D,args:= #[]}]} W:=by
 have b6:Lf.Sub k W:=λb o e=>(s.block b (E.lt e)).trans (E b o e);have b5:∀b,w.heap.size<=b->k b=none:=λb hb=>by
  cases e:k b with
  | none=>rfl
  | some o=>have:=E.lt e;omega
 have a8:Lf.Rel 53 (λk=>if k=1 then w.heap.size else if k=3 then w.heap.size+1 else w.heap.size+2) (Lf.jZ (some p) v) {tmps:=Dw p w R S U Q,defers:=[{target:=.collected D,args:= #[]}]} k W:=by
  have P:∀(t:Nat) (l:Lf.LV) (c:Lf.aU),(Lf.jZ (some p) v).f t=some (l,c)->c=[]/\(t=1/\l=.box 1 0\/t=2/\l=.v (.int .i64 0)\/t=3/\l=.box 3 0\/t=4/\l=.box 4 0\/t=5/\l=.v (.bool false)\/t=6/\l=.v (.int .i64 0)):=λt l c e=>by unfold Lf.jZ at e;dsimp only at e;split at e<;>cases e<;>simp
  have cell:∀(k:Nat) (d:List Value),(Lf.jZ (some p) v).m k=some d->k=1/\d=[.pointer (some p)]\/k=3/\d=[.int .i64 v]\/k=4/\d=[.int .i64 0,.int .i64 0]:=λk d e=>by unfold Lf.jZ at e;dsimp only at e;split at e<;>cases e<;>simp
  refine ⟨rfl,b6,λt l c e=> ?_,λt l c e q hq=> ?_,λt l c e _ _=> ?_,λt l c e _ J=> ?_,λa d e _=> ?_,λA B V X _ _ z=> ?_,λ_ e=>e.elim,λ_ e=>e.elim⟩
  ·grind
  ·grind
  ·obtain ⟨_,h | h | h | h | h | h⟩:=P t l c e<;>obtain ⟨rfl,rfl⟩:=h<;>exact ⟨rfl,λ_ _ _=>trivial⟩
  ·rw [(P t l c e).1] at J;exact absurd (Lf.bG _) J
  ·grind
  ·have c1:A=1\/A=3\/A=4:=by
    cases e:(Lf.jZ (some p) v).m A with
    | none=>exact absurd e V
    | some d=>rcases cell A d e with h | h | h<;>simp [h.1]
   have c2:B=1\/B=3\/B=4:=by
    cases e:(Lf.jZ (some p) v).m B with
    | none=>exact absurd e X
    | some d=>rcases cell B d e with h | h | h<;>simp [h.1]
   grind
 have C:∀a∈Lf.sB,∀b,b<w.heap.size\/w.heap.size+3<=b->(if a=1 then w.heap.size else if a=3 then w.heap.size+1 else w.heap.size+2)≠b:=λa _ b hb e=>by grind
 refine Lf.nb Lf.ah Lf.lj Lf.yY Lf.sB _ _ k (Lf.ot (n:=53) (by kernel_rfl)) ht _ _ W a8 _ λe s' g b7 F y z Z r=> ?_;have qZ:D<W.heap.size:=Lf.gy I;have dn:k D=none:=b5 D (by omega);have O:y.heap[D]? =some (.deferred (some [])):=(r.cF D qZ dn λa j _=>C a j D (.inr H)).trans I;have Y:g D=none:=r.vU D qZ dn λa j _=>C a j D (.inr H);have G:Lf.th Lf.uU s' g Tryz.f209.results.toList Tryz.f209.resultTypes.toList K->LeavesInM Fence.wide 3 Tryz.prog Tryz.f209 F.tmps (λe y=>∃u g,e=.returned u/\(∃x,u=(Lf.bP Lf.tb Tryz.f209.resultTypes.toList).enc x/\K x g)/\Lf.Step k g w y) F.defers .returning y:=λa9=>by
  rw [r.defers];refine ⟨by simp,.inl ⟨_,_,rfl,run_takeDeferred O,?_⟩⟩;have N:=Zk Z Y O (.deferred none);obtain ⟨x,vs,j,b3,b4⟩:=Lf.qx Lf.ah N a9;refine ⟨_,Lf.mf b3,_,g,rfl,⟨x,b4,j⟩,N.sub,?_,λb hb M=> ?_,?_,?_,?_⟩
  ·have:=r.size;have:=s.size;simp;omega
  ·have L:b<W.heap.size:=Nat.lt_of_lt_of_le hb s.size;refine ⟨?_,r.vU b L M λa j _=>C a j b (.inl hb)⟩;rw [World.putObj_heap_other (by omega),r.cF b L M λa j _=>C a j b (.inl hb)];exact s.block b hb
  ·exact r.os.trans s.os
  ·exact r.tape.trans s.tape
  ·exact r.output.trans s.output
 cases e with
 | fS=>exact G z
 | ret=>exact G z
 | ext i=>exact z.elim
 | jN i=>exact z.elim
end Go.Proofs
namespace Go.Proofs
open Go.RowKit Go.Shelf
attribute [local go_sem] Oper.semAt_some
theorem Yy {W:World} {b i:Nat} {a:Array Value} {t:TypeId} (h:W.heap[b]? =some (.cells a t (0,0))):W.frozen? ⟨b,i,none⟩=false:=by simp [World.frozen?,h]
theorem aaw {W:World} {b c i:Nat} {v:Value} (h:b≠c):(W.setCell ⟨c,i,none⟩ v).heap[b]? =W.heap[b]?:=by show (W.heap.modify c _)[b]? =_;grind
theorem OA {W:World} {c:Nat} {u v:Value} {t:TypeId} (h:W.heap[c]? =some (.cells #[u] t (0,0))):(W.setCell ⟨c,0,none⟩ v).heap[c]? =some (.cells #[v] t (0,0)):=by show (W.heap.modify c _)[c]? =_;grind
set_option maxHeartbeats 4000000 in
theorem Yz {k:Lf.Hp} {pb:Nat} {ae:Int} {len:Nat} {ptr:Nat->Addr} {dX:Nat->Nat} {w:World} {Kq:(Lf.bP Lf.tb Tryz.f209.resultTypes.toList).T->Lf.Hp->Prop} (hs:Lf.Sub k w)
  (hl:0<len/\len<=1000) (num:Nat->Fc len) (hnum:∀j,j<len->uX ae len j=(num j).1)
  (hround:∀W,Lf.Sub k W->Calls Tryz.prog 231 #[.pointer (some ⟨pb,0,none⟩)] W λe W'=>∃A A1:Nat,e=.returned (.func (.func 242) #[] #[.pointer (some ⟨A1,0,none⟩),.pointer (some ⟨A,0,none⟩)])/\(W.heap.size<=A/\A<W'.heap.size)/\(W.heap.size<=A1/\A1<W'.heap.size)/\
   W'.cell? ⟨A,0,none⟩=some (.int .i64 ae)/\W'.cell? ⟨A1,0,none⟩=some (.int .i64 (len:Int))/\Below W.heap.size W W')
  (lb:Nat) (lo lc:Nat) (hlane:∀W,Lf.Sub k W->W.cell? ⟨pb,0,none⟩=some (.slice (some ⟨lb,lo,none⟩) len lc))
  (hptr:∀j,j<len->∀W,Lf.Sub k W->W.cell? ⟨lb,lo+j,none⟩=some (.pointer (some (ptr j))))
  (hlen:∀j,j<len->∀W,Lf.Sub k W->Calls Tryz.prog 232 #[.pointer (some (ptr j))] W λe W'=>e=.returned (.int .i64 (dX j:Int))/\Below W.heap.size W W')
  (hno:(∀j,j<len->dX (num j).1.toNat=0)->Lf.qB (some ⟨pb,0,none⟩) (-1) Kq k)
  (hyes:∀j,j<len->(∀i,i<j->dX (num i).1.toNat=0)->dX (num j).1.toNat≠0->Lf.qB (some ⟨pb,0,none⟩) (num j).1 Kq k):
  Calls Tryz.prog 209 #[.pointer (some ⟨pb,0,none⟩)] w (λe w'=>∃u h',e=.returned u/\(∃x,u=(Lf.bP Lf.tb Tryz.f209.resultTypes.toList).enc x/\Kq x h')/\Lf.Step k h' w w'):=by
 refine callsIn_wide.1 (callsIn_of_wp_marks (n:=3) Tryz.func209 rfl trivial ?_ rfl);simp only [Tryz.ntmps209,List.size_toArray,List.length_cons,List.length_nil,Nat.reduceAdd,Nat.reduceSub,Array.replicate_succ,Array.replicate_zero,List.push_toArray,List.append_toArray,List.nil_append,List.cons_append]
 gi_wp2
 refine (show ∀T,T=Lf.lj->Code.wpIn Fence.wide 3 Tryz.prog (Code.scope (Code.seq _ (Code.seq _ (Code.seq (Code.seq _ (Code.block _ (Code.rangeFunc _ _ _ _))) T)))) _ _ _ from λT hT=> ?_) _ rfl;refine wpIn_wide.2 (wp_scope_straight ((wpIn_wide (n:=3)).1 (wpIn_seq_k λK1 hK1=> ?_)))
 gi_wp2
 rename_i K hK;refine wpIn_wide.2 (wp_label (hK _ _ ?_));clear hK;have hsz:(((w.alloc (Obj.cells #[Value.pointer (some ⟨pb,0,none⟩)] 138)).alloc (Obj.cells #[Value.int IntKind.i64 (-1)] 3)).alloc (Obj.cells #[Value.int IntKind.i64 0,Value.int IntKind.i64 0] 191)).heap.size=w.heap.size+3:=by simp
 obtain ⟨W0,hW0⟩:∃W0,((w.alloc (Obj.cells #[Value.pointer (some ⟨pb,0,none⟩)] 138)).alloc (Obj.cells #[Value.int IntKind.i64 (-1)] 3)).alloc (Obj.cells #[Value.int IntKind.i64 0,Value.int IntKind.i64 0] 191)=W0:=⟨_,rfl⟩;have b0:W0.heap[w.heap.size]? =some (.cells #[Value.pointer (some ⟨pb,0,none⟩)] 138):=by rw [<-hW0,tx,if_neg (by simp;omega),tx,if_neg (by simp),tx,if_pos rfl]
 have b1:W0.heap[w.heap.size+1]? =some (.cells #[Value.int IntKind.i64 (-1)] 3):=by rw [<-hW0,tx,if_neg (by simp),tx,if_pos (by simp)]
 have b2:W0.heap[w.heap.size+2]? =some (.cells #[Value.int IntKind.i64 0,Value.int IntKind.i64 0] 191):=by rw [<-hW0,tx,if_pos (by simp)]
 have bo:Below w.heap.size w W0:=by rw [<-hW0];exact (((Below.refl _ w).alloc (Nat.le_refl _) _).alloc (by simp) _).alloc (by simp;omega) _
 rw [hW0] at hsz ⊢;have c0:W0.cell? ⟨w.heap.size,0,none⟩=some (.pointer (some ⟨pb,0,none⟩)):=B9 b0;have hs0:Lf.Sub k W0:=λb o e=>(bo.block b (hs.lt e)).trans (hs b o e);have hr:=hround W0 hs0;refine wpIn_seq_k λK hK=> ?_
 gi_wp2_with (refine ⟨trivial,?_⟩;gi_at_call 231;refine (callsIn_wide.2 hr).mono ?_;rintro e W2 ⟨A,A1,rfl,hA,hA1,hcA,hcA1,hB⟩)
 clear hr hround;have cB:w.heap.size+1<W2.heap.size:=by omega
 have w0:W2.heap[w.heap.size]? =some (.cells #[Value.pointer (some ⟨pb,0,none⟩)] 138):=(hB.block _ (by omega)).trans b0;have w1:W2.heap[w.heap.size+1]? =some (.cells #[Value.int IntKind.i64 (-1)] 3):=(hB.block _ (by omega)).trans b1;have w2:W2.heap[w.heap.size+2]? =some (.cells #[Value.int IntKind.i64 0,Value.int IntKind.i64 0] 191):=(hB.block _ (by omega)).trans b2;have ww:Below w.heap.size w W2:=bo.trans (hB.mono (by omega));have subG:∀ {v W},A2 W2.heap.size (w.heap.size+1) W2 v W->Lf.Sub k W/\Below w.heap.size w W/\W.heap[w.heap.size]? =some (.cells #[Value.pointer (some ⟨pb,0,none⟩)] 138)/\W.heap[w.heap.size+2]? =some (.cells #[Value.int IntKind.i64 0,Value.int IntKind.i64 0] 191):=λ{v W} g=>by have hb:Below w.heap.size w W:=⟨g.os.trans ww.os,g.tape.trans ww.tape,g.output.trans ww.output,by have:=g.size;omega,λb hb=>(g.same b (by omega) (by omega)).trans (ww.block b hb)⟩;exact ⟨λb o e=>(hb.block b (hs.lt e)).trans (hs b o e),hb,(g.same _ (by omega) (by omega)).trans w0,(g.same _ (by omega) (by omega)).trans w2⟩
 have tail:∀ {v W D} {x7 x8 x9 x10:Value},A2 W2.heap.size (w.heap.size+1) W2 v W->W2.heap.size<=D->W.heap[D]? =some (.deferred (some []))->Lf.qB (some ⟨pb,0,none⟩) v Kq k->
   K {tmps:=Dw ⟨pb,0,none⟩ w x7 x8 x9 x10,defers:=[{target:=.collected D,args:= #[]}]} W:=λ{v W D x7 x8 x9 x10} g hD hK2 ht=>by
  obtain ⟨q1,q2,q3,q4⟩:=subG g;refine hK _ _ (wpIn_wide.2 ?_);rw [hT];exact Yx hs q2 q3 g.box q4 (by omega) hK2 ht
 refine wpIn_rangeFunc_ownF (α:=Fc len) rfl (by decide) (gf:=242) (lb:= #[Value.pointer (some ⟨A1,0,none⟩),Value.pointer (some ⟨A,0,none⟩)]) rfl trivial (enters_of Tryz.func242 (by kernel_rfl) rfl)
  (encs:=λx=> #[.int .i64 x.1]) (Kp:=λW W'=>W'.cell? ⟨A,0,none⟩=W.cell? ⟨A,0,none⟩/\W'.cell? ⟨A1,0,none⟩=W.cell? ⟨A1,0,none⟩)
  (S:=λys=>ys=nz num len) (Sp:=λpre=>∃k,k<=len/\pre=nz num k) (N:=len) (w0:=W2)
  (λl J Jx W hW _ _ hY h0=>Ud 2 (by decide) l A A1 ae len hl.1 hl.2 num hnum _ (λ_ _ h=>h) J Jx hY W ((hW.cell (p:=⟨A,0,none⟩) hA.2).trans hcA) ((hW.cell (p:=⟨A1,0,none⟩) hA1.2).trans hcA1) h0)
  (λh1 h2=>⟨h2.1.trans h1.1,h2.2.trans h1.2⟩)
  (λW l o o' hl2 _ _ _=>⟨xG (World.putObj_heap_other (by omega)),xG (World.putObj_heap_other (by omega))⟩)
  (Below.refl _ _) (λ_=>rfl)
  (λpre W=>A2 W2.heap.size (w.heap.size+1) W2 (-1) W/\∀y∈pre,dX y.1.toNat=0)
  (λc pre W=>c=.exit 0/\∃pre' x,pre=pre'++ [x]/\(∀y∈pre',dX y.1.toNat=0)/\dX x.1.toNat≠0/\A2 W2.heap.size (w.heap.size+1) W2 x.1 W)
  (λs A B row hs hg hr=>⟨hs.1.grown cB hg hr,hs.2⟩)
  (λc s A B row hs hg hr=>by
   obtain ⟨e,pre',x,h1,h2,h3,h4⟩:=hs;exact ⟨e,pre',x,h1,h2,h3,h4.grown cB hg hr⟩)
  ⟨⟨λ_ _ _=>rfl,w1,Nat.le_refl _,rfl,rfl,rfl⟩,λy hy=>by cases hy⟩
  (λx=>{tmps:= #[Value.pointer (some ⟨pb,0,none⟩),Value.pointer (some ⟨w.heap.size,0,none⟩),Value.int IntKind.i64 0,Value.pointer (some ⟨w.heap.size+1,0,none⟩),Value.pointer (some ⟨w.heap.size+1+1,0,none⟩),Value.bool false,Value.int IntKind.i64 0,.int .i64 x.1,Value.pointer (some ⟨pb,0,none⟩),Value.func (Fn.func 242) #[] #[Value.pointer (some ⟨A1,0,none⟩),Value.pointer (some ⟨A,0,none⟩)],.int .i64 x.1,undef,undef,undef,undef,undef,undef,undef,undef,undef,undef,undef,undef,undef,undef,undef,undef,undef,undef,undef,undef,undef,undef,undef,undef,undef,undef,undef,undef,undef,undef,undef,undef,undef,undef,undef,undef,undef,undef,undef,undef,undef,undef],defers:=[]})
  ?assign ?body ?done ?stop
 case assign=>
  intro l x W K hK
  gi_wp2
  exact hK
 case body=>
  rintro l pre x W ⟨g,hz⟩ _;obtain ⟨q1,q2,q3,q4⟩:=subG g;have d0:W.cell? ⟨w.heap.size,0,none⟩=some (.pointer (some ⟨pb,0,none⟩)):=B9 q3;have d1:W.cell? ⟨pb,0,none⟩=some (.slice (some ⟨lb,lo,none⟩) len lc):=hlane W q1;have xl:x.1.toNat<len:=by have:=x.2;omega
  have x0:=x.2;have d2:W.cell? ⟨lb,lo+x.1.toNat,none⟩=some (.pointer (some (ptr x.1.toNat))):=hptr _ xl W q1;have hc:=hlen _ xl W q1;by_cases hv:dX x.1.toNat=0
  ·rw [hv] at hc
   gi_wp2_with (refine ⟨trivial,?_⟩;gi_at_call 232;refine (CallsIn.inRound l (callsIn_wide.2 hc)).mono ?_;rintro e W3 ⟨rfl,hB3⟩)
   have hlt:∀b o,W.heap[b]? =some o->W3.heap[b]? =some o:=λb o e=>(hB3.block b (Lf.gy e)).trans e;have gsz:=g.size;refine ⟨⟨hB3.size,λb o e _=>hlt b o e⟩,⟨xG (hB3.block _ (by omega)),xG (hB3.block _ (by omega))⟩,⟨λb hb hne=>(hB3.block b (by omega)).trans (g.same b hb hne),hlt _ _ g.box,Nat.le_trans g.size hB3.size,hB3.os.trans g.os,hB3.tape.trans g.tape,hB3.output.trans g.output⟩,λy hy=> ?_⟩;grind
  ·have hv2:0<dX x.1.toNat:=Nat.pos_of_ne_zero hv
   gi_wp2_with (refine ⟨trivial,?_⟩;gi_at_call 232;refine (CallsIn.inRound l (callsIn_wide.2 hc)).mono ?_;rintro e W3 ⟨rfl,hB3⟩;have hb3:=(hB3.block _ (Lf.gy g.box)).trans g.box;have hcb:W3.cell? ⟨w.heap.size+1,0,none⟩=some (.int .i64 (-1)):=B9 hb3;have hfb:W3.frozen? ⟨w.heap.size+1,0,none⟩=false:=Yy hb3)
   have gsz:=g.size;refine ⟨⟨Nat.le_trans hB3.size (KeepsOthers.setCell _ _ _).size,λb o e ho=>(KeepsOthers.setCell _ _ _).same b o ((hB3.block b (Lf.gy e)).trans e) ho⟩,rfl,pre,x,rfl,hz,hv,?_⟩;have hset:(W3.setCell ⟨w.heap.size+1,0,none⟩ (.int .i64 x.1))=(W3.setCell ⟨w.heap.size+1,0,none⟩ (.int .i64 x.1)):=rfl;refine ⟨λb hb hne=> ?_,?_,?_,hB3.os.trans g.os,hB3.tape.trans g.tape,hB3.output.trans g.output⟩
   ·rw [aaw hne];exact (hB3.block b (by omega)).trans (g.same b hb hne)
   ·exact OA hb3
   ·exact Nat.le_trans g.size (Nat.le_trans hB3.size (KeepsOthers.setCell _ _ _).size)
 case done=>
  rintro D ys W hD rfl ⟨g,hz⟩ hK2
  gi_wp2
  refine tail (x7:=undef) (x8:=Value.pointer (some ⟨pb,0,none⟩)) (x9:=Value.func (Fn.func 242) #[] #[Value.pointer (some ⟨A1,0,none⟩),Value.pointer (some ⟨A,0,none⟩)]) (x10:=undef) g hD hK2 (hno λj hj=>hz _ ?_);exact List.mem_map.2 ⟨j,List.mem_range.2 hj,rfl⟩
 case stop=>
  rintro D c pre W hD hSp ⟨rfl,pre',x,h1,h2,h3,g⟩ hK2
  gi_wp2
  obtain ⟨k1,hk1,e1⟩:=hSp;rw [h1] at e1;cases k1 with
  | zero=>simp [nz] at e1
  | succ j=>
   rw [j4] at e1;obtain ⟨e2,e3⟩:=List.append_inj' e1 rfl;have e3:x=num j:=by simpa using e3
   refine tail (x7:=undef) (x8:=Value.pointer (some ⟨pb,0,none⟩)) (x9:=Value.func (Fn.func 242) #[] #[Value.pointer (some ⟨A1,0,none⟩),Value.pointer (some ⟨A,0,none⟩)]) (x10:=undef) g hD hK2 ?_;rw [e3];refine hyes j (by omega) (λi hi=> ?_) (by grind);exact h2 _ (by rw [e2];exact List.mem_map.2 ⟨i,List.mem_range.2 hi,rfl⟩)
end Go.Proofs
namespace Lf
open Go Go.Proofs Go.RowKit
def Dx (P:Program) (p:Option Addr) (lane:Int) (Q:(Int->(Int->(bf->(Bool->(Int->(Hp->Prop))))))) (h:Hp):Prop:=
 (if (decide (lane<(0:Int)))=true then
 Q (0:Int) (0:Int) ⟨(0:Int),(0:Int)⟩ false (21:Int) h
 else
 ag none p λd=>
 aN none ak h (Addr.add d 0) λx=>
 (((x.len:Nat):Int)≠(0:Int)/\ag none p λe=>
 cD h (Addr.add e 1) [(.int .i64 (Int.tmod (yw (lane+(1:Int))) ((x.len:Nat):Int)))] (λa=>
 ag none p λf=>
 aN none ak a (Addr.add f 0) λb=>
 ((bB b.base b.len lane)/\aN none aj a (sat b.base 1 lane) λj=>
 rQ P Wa [(.pointer j)] (ab .i64) aC aQ (ab .i64) (λr g r2 i c=>
 ((True/\True)/\Q r lane g r2 i c)) a))))
theorem I9 (p:Option Addr) (lane:Int) (Q:Int->Int->bf->Bool->Int->Hp->Prop) (h:Hp):qB p lane (λx a=>Q x.1 x.2.1 x.2.2.1 x.2.2.2.1 x.2.2.2.2 a) h=Dx Tryz.prog p lane Q h:=by kernel_rfl
section
variable {h0 k:Hp}
theorem HR {h:Hp} {a:Addr} {b:List Value} {i:Nat} {v:Value} (l:bp h a b) (e:b[i]? =some v):cW h (a.add i)=some v:=l i v e
theorem OC {P:Program} {g:FuncId} {args:List Value} {sh:Shape} {K:sh.T->Hp->Prop} {w:World} (c:Sub k w) (f:aa P g args sh (λx a=>a=k/\K x a) k):Calls P g args.toArray w λe d=>∃x,e=.returned (sh.enc x)/\K x k/\Below w.heap.size w d:=by
 refine (f w c).mono ?_;rintro e d ⟨v,a,rfl,⟨x,rfl,rfl,h⟩,st⟩;refine ⟨x,rfl,h,st.os,st.tape,st.output,st.size,λb hb=> ?_⟩;cases e:a b with
 | none=>exact (st.cF b hb e).1
 | some o=>rw [st.sub b o e,c b o e]
theorem yp {a:Type} {l:List a} {i:Nat} {d:a} (h:i<l.length):l[i]? =some (l.getD i d):=by grind
theorem Jo {b:Type} {f:b->Value}:∀ {l:List b},l.flatMap (λa=> [f a])=l.map f
 | []=>rfl
 | a::r=>by rw [List.flatMap_cons,Jo,List.map_cons];rfl
theorem Ue {a:Type} {n:Nat} {f:Nat->a} {q:a->Bool} (h:∀j,j<n->q (f j)=false):((List.range n).map f).find? q=none:=by grind
theorem Uf {a:Type} {n:Nat} {f:Nat->a} {q:a->Bool} {j:Nat} (c:j<n) (h:∀i,i<j->q (f i)=false) (b:q (f j)=true):((List.range n).map f).find? q=some (f j):=by
 have e:List.range n=List.range j++j::(List.range (n-j-1)).map (λi=>j+1+i):=by rw [show n=j+(1+(n-j-1)) by omega,List.range_add,List.range_add];simp [Nat.add_assoc]
 grind
theorem WR :xY:=by
 intro h0 k p room ae f Q o hl d2 c1 c6;obtain ⟨x,s,e1,H,C⟩:=o.nj;obtain ⟨q,rfl,d1,d3⟩:=(Has.left C).pJ;have c0:=C.right.left.gr;have c4:Rw k 1 eP x.af s:=C.right.left.iq λ_=>rfl;have U:0<f.length:=by omega
 obtain ⟨L,M,d0,b8⟩:∃L M,x.af.base=some ⟨L,M,none⟩/\bp k ⟨L,M,none⟩ (s.flatMap eP):=by
  obtain ⟨_,F,⟨q1,q2,q3⟩,_⟩:=C.right.left;rcases q3 with ⟨h,_⟩ | ⟨b,off,cs,h1,_⟩
  ·omega
  ·rcases c4.2.2 with h | ⟨a,h3,h4⟩
   ·omega
   grind
 have b6:∀j,j<f.length->(s.flatMap eP)[j]? =some (.pointer (some (s.getD j a0))):=λj l=>by rw [show s.flatMap eP=s.map λa=>Value.pointer (some a) from Jo,List.getElem?_map,yp (d:=a0) (by omega)];rfl
 have D:Has h0 (dq Mr ⟨q,0,none⟩ x) k:=Has.left C;have b7:cW k ⟨q,0,none⟩=some x.af.v:=HR (i:=0) (D.eA (off:=0) (n:=2) (vs:=[x.af.v,.int .i64 x.ae]) rfl) rfl;have c2:Has h0 (dO ⟨q,0,none⟩ room f ae) k:=C.jX e1 H;let num:Nat->Fc f.length:=λj=>⟨(((ae.toNat+j)%f.length:Nat):Int),by omega,by have:=Nat.mod_lt (ae.toNat+j) U;omega⟩;let dX:Nat->Nat:=λj=>(f.getD j kZ).values.length;have S:∀j,j<f.length->((match f[(ae.toNat+j)%f.length]? with | some x=> !x.values.isEmpty | none=>false)=true↔dX (num j).1.toNat≠0):=λj l=>by have I:=Nat.mod_lt (ae.toNat+j) U;grind
 have key:rR Tryz.prog V4 [.pointer (some ⟨q,0,none⟩)] (λv g=>∃x,v=(bP tb Tryz.f209.resultTypes.toList).enc x/\(λ(x:(xe (ab .i64) (ab .i64) aC aQ (ab .i64)).T) g=>Q x.1 x.2.1 x.2.2.1 x.2.2.2.1 x.2.2.2.2 g) x g) k:=by
  intro w hs;refine Yz (len:=f.length) (ae:=ae) (ptr:=λj=>s.getD j a0) (dX:=dX) (num:=num) hs ⟨U,by omega⟩ (λj l=> ?_) (λW B=> ?_) L M x.af.cap (λW B=> ?_) (λj l W B=> ?_) (λj l W B=> ?_) (λV=> ?_) (λj l V hv=> ?_)
  ·show (Go.RowKit.wrap64 (ae+(j:Int))).tmod (f.length:Int)=(((ae.toNat+j)%f.length:Nat):Int);have:Go.RowKit.wrap64 (ae+(j:Int))=((ae.toNat+j:Nat):Int):=by unfold Go.RowKit.wrap64;omega
   rw [this];rfl
  ·refine (show aa Tryz.prog zuu [aj.enc (some ⟨q,0,none⟩)] eH (λv g=>k<=g/\∃A u:Nat,k A=none/\k u=none/\v=⟨242, #[], #[.pointer (some ⟨u,0,none⟩),.pointer (some ⟨A,0,none⟩)]⟩/\bp g ⟨A,0,none⟩ [.int .i64 ae]/\bp g ⟨u,0,none⟩ [.int .i64 (f.length:Int)]) k from ?_) W B |>.mono ?_
   ·refine OK ?_;unfold zuy;refine aP (D.ld (shf:=ab .i64) x.ae (off:=1) rfl ?_);refine aP (D.ld (shf:=ak) x.af (off:=0) rfl ?_);intro b ty hn;have J:=lP (o:=.cells #[Value.int .i64 0] ty (0,0)) hn;have hb:fN (k.set b (.cells #[Value.int .i64 0] ty (0,0))) b [.int .i64 0]:=⟨ty,mI⟩;refine ⟨⟨ph J (D.eA (off:=1) (n:=1) (vs:=[.int .i64 x.ae]) rfl),ph J (D.eA (off:=0) (n:=1) (vs:=[x.af.v]) rfl),trivial⟩,?_⟩;refine AV hb (off:=0) (new:=[.int .i64 x.ae]) (by simp) λh2 m b5=> ?_;have X:k<=h2:=λc ob e=>m.cF c ob (J c ob e) λhc=>by grind
    refine ⟨⟨ph X (D.eA (off:=0) (n:=1) (vs:=[x.af.v]) rfl),trivial⟩,?_⟩;intro Z rD b0;have l3:=lP (o:=.cells #[Value.int .i64 ((x.af.len:Nat):Int)] rD (0,0)) b0;refine ⟨Hp.le_trans X l3,b,Z,hn,sK X b0,rfl,ph l3 ?_,?_⟩
    ·rw [<-e1];exact b5.na (off:=0) (n:=1) rfl
    ·have:=Et (h:=h2) (b:=Z) (t:=rD) (cs:=[Value.int .i64 ((x.af.len:Nat):Int)]);grind
   ·rintro e W' ⟨v,g,rfl,⟨fv,rfl,kl,A,u,nA,c7,rfl,lA,b1⟩,st⟩;have O:∃o,g A=some o:=by
     have:=lA 0 _ rfl;cases e:g A with
     | some o=>simp
     | none=>simp [cW,e,Addr.add] at this
    have P:∃o,g u=some o:=by
     have:=b1 0 _ rfl;cases e:g u with
     | some o=>simp
     | none=>simp [cW,e,Addr.add] at this
    obtain ⟨oA,O⟩:=O;obtain ⟨d4,P⟩:=P;refine ⟨A,u,rfl,⟨Nat.le_of_not_lt λI=> ?_,st.sub.lt O⟩,⟨Nat.le_of_not_lt λI=> ?_,st.sub.lt P⟩,vw st.sub (lA 0 _ rfl),vw st.sub (b1 0 _ rfl),st.os,st.tape,st.output,st.size,λb hb=> ?_⟩
    ·have:=(st.cF A I nA).2;grind
    ·have:=(st.cF u I c7).2;grind
    ·cases e:k b with
     | none=>exact (st.cF b hb e).1
     | some o=>rw [st.sub b o (kl b o e),B b o e]
  ·rw [vw B b7];show some (Value.slice x.af.base x.af.len x.af.cap)=_;grind
  ·have:=HR b8 (b6 j l);rw [jM] at this;exact vw B this
  ·obtain ⟨h1,J,Y,_⟩:=C.mZ (yp (d:=kZ) l);refine (OC (sh:=ab .i64) (K:=λr _=>r=((f.getD j kZ).values.length:Int)) B (Qs (Y4 Y ⟨rfl,rfl⟩))).mono ?_;grind
  ·refine Eq.mpr (I9 (some ⟨q,0,none⟩) (-1) Q k) ?_;unfold Dx;rw [if_pos (by decide)];refine c1 (Ue λj l=> ?_) k c2;have:=S j l;rw [V j l] at this;exact Bool.eq_false_iff.2 λe=>this.1 e rfl
  ·refine Eq.mpr (I9 (some ⟨q,0,none⟩) (num j).1 Q k) ?_;unfold Dx;have c5:=(num j).2;rw [if_neg (by simp;omega)];have R:nZ ae f=some (num j).1.toNat:=by
    unfold nZ;rw [Uf l (λi E=> ?_) ((S j l).2 hv)]
    ·show some ((ae.toNat+j)%f.length)=some ((((ae.toNat+j)%f.length:Nat):Int)).toNat;rw [Int.toNat_natCast]
    ·have:=S i (by omega);rw [V i E] at this;exact Bool.eq_false_iff.2 λe=>this.1 e rfl
   generalize (num j).1=y at c5 R hv;obtain ⟨i,rfl⟩:∃i:Nat,y=(i:Int):=⟨y.toNat,by omega⟩;rw [Int.toNat_natCast] at R hv;have E:i<f.length:=by omega
   refine aP (D.ld (shf:=ak) x.af (off:=0) rfl ⟨by omega,?_⟩);obtain ⟨g1,_,oR,put⟩:=C.f1;have b4:Int.tmod (yw ((i:Int)+1)) ((x.af.len:Nat):Int)=((i+1:Nat):Int)%(f.length:Int):=by rw [wrap64 (by omega) (by omega),c0,H];rfl
   rw [b4];refine aP (oR.st ({x with ae:=((i+1:Nat):Int)%(f.length:Int)}:dg) (off:=1) (new:=[.int .i64 (((i+1:Nat):Int)%(f.length:Int))]) (by show 1+1<=2;omega) rfl λk2 o2=> ?_);have c8:=put _ _ o2;refine aP (o2.ld (shf:=ak) x.af (off:=0) rfl ?_);have b3:Has h0 (gU ⟨q,0,none⟩ {x with ae:=((i+1:Nat):Int)%(f.length:Int)} s room f) k2:=c8;refine b3.ptr H E ?_;obtain ⟨g2,_,Y,jJ⟩:=b3.mZ (yp (d:=kZ) E);have a8:=yp (d:=kZ) E;have a9:=hl.2 _ (List.mem_of_getElem? a8);have c3:∀ {l' G},Has g2 (du (s.getD i a0) room l') G->Has h0 (dO ⟨q,0,none⟩ room (f.set i l') (((i+1:Nat):Int)%(f.length:Int))) G:=λN=>(jJ _ _ N).jX rfl (by rw [List.length_set];exact H);refine Pq (Vz Y a9.1 a9.2 (λe=> ?_) (λv vs G e e' N=>⟨⟨trivial,trivial⟩,?_⟩) λv vs z zs G e e' N=>⟨⟨trivial,trivial⟩,?_⟩)
   ·exact absurd (congrArg List.length e) hv
   ·have:=c6 i _ v vs R a8 e G (c3 N);rw [e'] at this;exact this
   grind
 exact key
end
end Lf
namespace Lf
open Go Go.Proofs Tryz
theorem mX {len:Int} {n:Nat} (l:len=(n:Int)) (hb:n<=4611686018427387904) (I:Nat->Hp->Prop) {B:(Int->Hp->Prop)->Int->Hp->Prop} {X:Int->Hp->Prop} {b:Hp} (d:I 0 b)
  (j:∀i:Nat,i<n->∀h,I i h->∀K:Int->Hp->Prop,(∀a,I (i+1) a->K (yw ((i:Int)+1)) a)->B K (i:Int) h) (m:∀h,I n h->X (n:Int) h):
  aA (λc t h=>if decide (t<len)=true then B c t h else X t h) (0:Int) b:=by
 refine aA.intro (λt h=>∃i:Nat,t=(i:Int)/\i<=n/\I i h) (λt _=>(len-t).toNat) ⟨0,rfl,by omega,d⟩ ?_;rintro t h ⟨i,rfl,k,e⟩;by_cases g:i<n
 ·rw [if_pos (decide_eq_true (by omega))];refine j i g h e _ λa f=> ?_;rw [wrap64 (by omega) (by omega)];exact ⟨⟨i+1,by omega,by omega,f⟩,by omega⟩
 grind
section
variable {h:Hp} {c:aV} {s:fz}
end
def A0 (c:aV) (s:fz):Prop:=tZ c s λ(i:Nat) q=>fl c.labels (i:Int) q=true
abbrev RS :Type:=Except (Int×Nat) Nat
section
variable {α β:Type} {a:List UInt8} {r r1 r2:RS}
end
section
variable {d h:Hp} {b:Nat} {a:Sl} {c:List UInt8} {r:RS}
def MP (x:ay):List Value:=be (aS.enc x)
end
def Bv :aL:=⟨0,⟨none,0,0⟩,⟨none,0,0⟩⟩
theorem eqI {P:Program} (d:Nat) {e:TypeId} (c:P.underlying e=some (.int .i64)) (b:Array Value):∀(a:List Nat) (w:World),(∀j∈a,∃n,b[j]? =some (.int .i64 n))->(Op.eqItems (d+1) e 1 b b a).run P w=.ok true w
 | [],w,_=>by simp [Op.eqItems]
 | j::a,w,h=>by
  obtain ⟨n,i⟩:=h j (List.mem_cons_self ..);have k:=eqI d c b a w λl g=>h l (List.mem_cons_of_mem _ g);have f:(isAgg e).run P w=.ok false w:=by simp [isAgg,run_underlying c]
  simp only [Op.eqItems,Sem.run_bind,part,f,Result.andThen_ok,Bool.false_eq_true,if_false,Nat.mul_one,i,Sem.run_pure,run_equalIn_int w d e .i64 .i64 n n c];simp [k]
section
variable {P:Program} {h:Hp} {Q:Bool->Hp->Prop}
theorem OE {x y:cU} (h:qJ x=qJ y):x=y:=by cases x;cases y;simp [qJ] at h;simp [h]
theorem aax {x y:bf} (h:AS x=AS y):x=y:=by cases x;cases y;simp [AS] at h;simp [h]
theorem HS {c g:Type} {f:c->g} (d:∀ {x y},f x=f y->x=y) {l m:List c} (h:l.map f=m.map f):l=m:=by
 induction l generalizing m with
 | nil=>cases m with
  | nil=>rfl
  | cons b m=>cases h
 | cons a l e=>cases m with
  | nil=>cases h
  | cons b m=>simp only [List.map_cons,List.cons.injEq] at h;rw [d h.1,e h.2]
end
structure E0 (c:aV):Prop where
 labels:c.labels.length<=140737488355328
 table:c.table.length<=140737488355328
 procs:c.procs.length<=140737488355328
 code:∀p∈c.procs,p.code.length<=140737488355328
structure vQ (l:bq):Prop where
 values:l.values.length<=140737488355328
 waiters:l.waiters.length<=140737488355328
structure wq (s:fz):Prop where
 parts:s.parts.length<=140737488355328
 procs:s.procs.length<=140737488355328
 log:∀x∈s.parts,x.log.length<=140737488355328/\x.az.length<=140737488355328/\x.al.length<=140737488355328/\∀q∈x.al,q.length<=140737488355328
 af:∀x∈s.procs,x.af.length<=140737488355328/\∀l∈x.af,vQ l
section
variable {h:Hp} {Q:Bool->Hp->Prop}
theorem xx {b e:Type} {R S:b->e->Prop} {c d:List b} {a:List e} {i:Nat} {x y:b} (f:cM R c a) (hb:cM S d a) (g:c[i]? =some x) (j:d[i]? =some y):∃z,a[i]? =some z/\R x z/\S y z:=by obtain ⟨p,k,l⟩:=f.get g;obtain ⟨q,m,n⟩:=hb.get j;grind
end
theorem fN.rows {d:Type} {h:Hp} {b:Nat} {a:List Value} {sz:Nat} {enc:d->List Value} (k:fN h b a) (c:List d) {n m:Nat} (e:a=c.flatMap enc) (g:n=c.length) (f:∀x,(enc x).length=sz):Rw h sz enc ⟨some ⟨b,0,none⟩,n,m⟩ c:=by refine ⟨g,by rw [iK f],.inr ⟨_,rfl,?_⟩⟩;refine k.na (off:=0) (n:=a.length) ?_;rw [List.drop_zero,List.take_length,e]
end Lf
namespace Lf
open Go Go.ChangeShapes Go.WideShapes Go.ChangeAt Go.RowKit
def whole (W:World):Hp:=λb=>W.heap[b]?
theorem Ug (W:World):Sub (whole W) W:=λ_ _ e=>e
theorem OG (W:World) (a:Addr):cW (whole W) a=W.cell? a:=rfl
theorem ZP {W a:World} {b:Hp} (c:whole W<=b) (st:Step (whole W) b W a):Below W.heap.size W a:=
 ⟨st.os,st.tape,st.output,st.size,λk d=>by
  cases e:W.heap[k]? with
  | some o=>exact st.sub _ _ (c _ _ e)
  | none=>simp at e;omega⟩
theorem Ic {H:Type} {enc:TypeId×Value->H} {P:Program} (i:laidOutB P=true) {W g:World} {sp:Nat->Bool} (hb:Below W.heap.size W g):∀ {c:List TypeId} {f:List Value} {e:List (DataW H)} {b:List MemPlace},
  (∀t∈c,P.readableRec t=true/\t<P.types.size)->DataW.TrodAll enc P W 0 (λ_=>true) true c f e b->(∀x∈b,x.block<W.heap.size)->(∀x∈b,sp x.block=true)->DataW.TrodAll enc P g 0 sp true c f e b
 | [],_,_,_,_,h,_,_=>by obtain ⟨rfl,rfl,rfl⟩:=trodAll_nil h;exact trodAll_mk0
 | t::c,_,_,_,k,h,j,l=>by
  obtain ⟨v,f,d,e,p,q,rfl,rfl,rfl,m,n⟩:=trodAll_cons h;obtain ⟨o,r⟩:=k t (List.mem_cons_self ..);exact ⟨p,q,WideElems.Trod_stays i o r m (λx a=>hb.same (j x (List.mem_append_left _ a))) (λx a=>l x (List.mem_append_left _ a)),
   Ic i hb (λt s=>k t (List.mem_cons_of_mem _ s)) n (λx a=>j x (List.mem_append_right _ a)) (λx a=>l x (List.mem_append_right _ a)),rfl⟩
theorem WS {H:Type} {enc:TypeId×Value->H} {P:Program} {f:Func} {s:ChangeSpec} {W d:World} {h:Hp} {args:Array Value} {a gs:List (DataW H)} {g:List MemPlace} {t:TypeId} (o:laidOutB P=true)
  (u:∀t∈f.params.toList,P.readableRec t=true/\t<P.types.size) (k:s.vars=[]) (v:f.resultTypes= #[t]) (w:P.underlying t=some .bool)
  (n:gs=[]->s.fn H (a++gs)={results:=[.lit (.bool true)],args:=a}) (b:DataW.Whole enc P f.params.toList s.vars false W args.toList a gs g) (r:whole W<=h) (st:Step (whole W) h W d):
  s.post enc P f false true false false W args (.bool true) d:=by
 have hb:=ZP r st;have j:∀p∈g,p.block<W.heap.size:=λp hp=>b.lt p hp;have m:=b;obtain ⟨p,q,l,i,rfl,y,z⟩:=m;rw [k] at i;obtain ⟨rfl,rfl⟩:=trodVars_none i;rw [List.append_nil] at j;have c:=n rfl;refine ⟨a,[],p++ [],[],p,[],b,?_,?_,?_,Below.frame hb _,λe=>(by cases e)⟩
 ·rw [c,v];exact trodAll_mk1 (shut_bool w true)
 ·rw [c];exact Ic o hb u l j (λx A=>by grind)
 ·rw [c,k];exact rfl
theorem qo {H:Type} {enc:TypeId×Value->H} {C:Checked} {os:Os} {f:FuncId} {fn:Func} {s:ChangeSpec} {t:TypeId} (own:ownKnob C.prog.godebug=none) (L:os.Started) (K:C.prog.inits.idxOf? f=none) (o:C.prog.funcs[f]? =some fn)
  (N:∃(w:World) (tape:Tape) (i:Input),w.os=os/\(w.forCall tape i).Shaped C.prog/\i.vars=[]/\Input.okWide C.prog (w.forCall tape i) .any w.heap.size f i/\
   s.pre6 enc C.prog fn [] false (w.forCall tape i).memory i.args/\({}:Assume).holds C.prog (lone (Frame.enter C.prog f i.args .normal) [] (w.forCall tape i)))
  (z:laidOutB C.prog=true) (B:∀t∈fn.params.toList,C.prog.readableRec t=true/\t<C.prog.types.size) (b:s.vars=[]) (D:fn.resultTypes= #[t]) (G:C.prog.underlying t=some .bool)
  (M:∀(W:World) (base:Nat) (args:Array Value) (a:List (DataW H)) (p:List MemPlace),(∀(j:Nat) t v,fn.params[j]? =some t->args[j]? =some v->Value.okWide C.prog W .any base t v)->DataW.TrodAll enc C.prog W 0 (λ_=>true) true fn.params.toList args.toList a p->
   (DataW.weightsEach C.prog fn.params.toList a).all (· <=reachBytes)=true->
   s.fn H a={results:=[.lit (.bool true)],args:=a}/\aa C.prog f args.toList aQ (λr c=>r=true/\whole W<=c) (whole W)):
  ReturnsInHanded {} C os f .any (s.pre6 enc C.prog fn [] false) (s.post enc C.prog fn false true false false):=by
 refine returnsInHanded_of_change_sized own L K o N ?_;intro W base args a gs P I g Q k _;have m:=g;obtain ⟨p,q,l,d,_,R,S⟩:=m;have u:gs=[]:=by rw [b] at d;exact (trodVars_none d).1
 subst u;have J:s.plain.varTypes C.prog=[]:=by unfold ChangeSpec.plain DataSpec.varTypes;rw [b];rfl
 rw [J,List.append_nil,List.append_nil] at k;obtain ⟨E,n⟩:=M W base args a p I l k;have h:=n W (Ug W);simp only [Array.toArray_toList] at h;refine h.mono λe O y=> ?_;obtain ⟨v,c,rfl,⟨x,rfl,rfl,A⟩,F⟩:=y;exact ⟨_,rfl,WS z B b D G (λe=>by rw [e,List.append_nil];exact E) g A F⟩
theorem uD {x:Int} (h:(Lit.int .u64 x).wf=true):0<=x/\x<18446744073709551616:=by simp [Lit.wf,IntKind.min,IntKind.max,IntKind.signed,IntKind.bits] at h;omega
theorem Zm {x:Int} (h:(Lit.int .i64 x).wf=true): -9223372036854775808<=x/\x<=9223372036854775807:=by simp [Lit.wf,IntKind.min,IntKind.max,IntKind.signed,IntKind.bits] at h;omega
end Lf
namespace Lf
open Go Go.Proofs Go.ChangeShapes Go.WideShapes Go.ChangeAt Go.RowKit
section
variable {H:Type} {enc:TypeId×Value->H} {P:Program} {W:World}
def kG (enc:TypeId×Value->H) (P:Program) (W:World) (t:TypeId) (R:List Value->Prop):Prop:=
 ∀fuel a y,DataW.trod enc P W 0 (λ_=>true) true fuel t a=some y->(DataW.weights P t y.1).all (· <=reachBytes)=true->R a
theorem En {t:TypeId} {k:IntKind} (b:P.underlying t=some (.int k)):kG enc P W t λa=>∃n,a=[.int k n]/\(Lit.int k n).wf=true:=λfuel a y h _=>by obtain ⟨n,c,_,d⟩:=DataW.trod_int b h;grind
theorem Cb {l m:List Nat} {p:Nat->Bool} (h:(l++m).all p=true):l.all p=true/\m.all p=true:=by grind
theorem Gr {e:TypeId}:∀ {l:List (DataW H)} {d:DataW H},d∈l->(DataW.weightsAll P e l).all (· <=reachBytes)=true->(DataW.weights P e d).all (· <=reachBytes)=true
 | d::r,c,hm,h=>by
  rw [DataW.weightsAll] at h;obtain ⟨a,b⟩:=Cb h;rcases List.mem_cons.1 hm with rfl | hm
  ·exact a
  ·exact Gr hm b
theorem qH :∀ {ts:List TypeId} {a:List (DataW H)} {i:Nat} {t:TypeId} {d:DataW H},ts[i]? =some t->a[i]? =some d->(DataW.weightsEach P ts a).all (· <=reachBytes)=true->(DataW.weights P t d).all (· <=reachBytes)=true
 | [],_,i,t,d,h,_,_=>by simp at h
 | _::_,[],i,t,d,_,h,_=>by simp at h
 | t::ts,d::a,0,f,e,b,c,h=>by simp at b c;subst b c;rw [DataW.weightsEach] at h;grind
 | t::ts,d::a,i+1,f,e,b,c,h=>by rw [DataW.weightsEach] at h;exact qH (by simpa using b) (by simpa using c) (Cb h).2
theorem qR {t:TypeId} {a:Array Field} {fuel:Nat} {d:List Value} {y:DataW H×List MemPlace} (g:P.underlying t=some (.struct a)) (h:DataW.trod enc P W 0 (λ_=>true) true fuel t d=some y) (c:(DataW.weights P t y.1).all (· <=reachBytes)=true)
  {i n off:Nat} {f:Field} {R:List Value->Prop} (b:a[i]? =some f) (q:f.offset=off) (k:P.cellsOf f.type=n) (j:kG enc P W f.type R):R ((d.drop off).take n):=by
 subst q;obtain ⟨r,m,_,rfl,s,p,l⟩:=DataW.trod_struct g h;have e:=l i f b;have o:i<r.length:=by rw [p];exact (Array.getElem?_eq_some_iff.1 b).1
 rw [List.getElem?_eq_getElem o,k] at e;refine j m _ _ e ?_;dsimp only at c;rw [DataW.weights,g] at c;refine qH (i:=i) (ts:=a.toList.map (·.type)) ?_ ?_ c
 ·rw [List.getElem?_map,Array.getElem?_toList,b];rfl
 grind
theorem yr {t:TypeId} {b:Array Field} {fuel:Nat} {a:List Value} {y:DataW H×List MemPlace} (d:P.underlying t=some (.struct b)) (h:DataW.trod enc P W 0 (λ_=>true) true fuel t a=some y):a.length=P.cellsOf t:=by obtain ⟨g,m,_,rfl,c,f,e⟩:=DataW.trod_struct d h;exact c
theorem qO {b a:List Value} {off n m:Nat} (h:(b.drop off).take n=a) (c:off+n=m):b.drop off=a++b.drop m:=by rw [<-c,<-h,<-List.drop_drop,List.take_append_drop]
structure nI {α:Type} (W:World) (sz:Nat) (en:α->List Value) (gS:α->Prop) (l:Sl) (xs:List α):Prop where
 Bt:Rw (whole W) sz en l xs
 cap:l.len<=l.cap
 nN:l.cap<=9223372036854775807
 kf:xs.length<=140737488355328
 all:∀x∈xs,gS x
theorem Kx {t e:TypeId} {u:Type} (E:P.underlying t=some (.slice e)) (f:u->List Value) (gS:u->Prop) {sz:Nat} (S:P.cellsOf e=sz) (hb:0<P.bytesOf e) (L:kG enc P W e λd=>∃x,d=f x/\gS x) (D:∀x,(f x).length=sz):
  kG enc P W t λd=>∃(l:Sl) (b:List u),d=[l.v]/\nI W sz f gS l b:=by
 intro fuel d y h o;subst S;rcases DataW.trod_slice E h with ⟨w,_⟩ | ⟨a,s,F,k,rest,n,_,w,K,Y,O,Q,a9,M,_,_⟩
 ·exact ⟨⟨none,0,0⟩,[],w,⟨⟨rfl,by simp,.inl (by simp)⟩,Nat.le_refl _,by simp,by simp,λx r=>by cases r⟩⟩
 ·subst K;dsimp only at o;rw [DataW.weights,E] at o;dsimp only at o;rw [List.all_cons,Bool.and_eq_true,decide_eq_true_eq] at o;obtain ⟨T,A⟩:=o;have A:=(Cb A).1;have I:∀i,i<s->∃x,gS x/\bp (whole W) (a.add (i*P.cellsOf e)) (f x):=by
   intro i N;have c:=M i N;have g:k[i]? =some k[i]:=List.getElem?_eq_getElem (by omega);rw [g] at c;cases C:W.cells? 0 (a.add (i*P.cellsOf e)) (P.cellsOf e) with
   | none=>grind
   | some d=>rw [C] at c;obtain ⟨_,Z,J⟩:=World.cells?_some C;obtain ⟨x,r,z⟩:=L n d _ c (Gr (List.mem_map.2 ⟨k[i],List.mem_of_getElem? g,rfl⟩) A);refine ⟨x,z,λj v p=> ?_⟩;have a8:j<(f x).length:=(List.getElem?_eq_some_iff.1 p).1;rw [OG,J j (by grind),r];exact p
  have build:∀m,m<=s->∃b:List u,b.length=m/\(∀x∈b,gS x)/\∀i x,b[i]? =some x->bp (whole W) (a.add (i*P.cellsOf e)) (f x):=by
   intro m
   induction m with
   | zero=>simp
   | succ m U=>
    intro b0;obtain ⟨b,c,g,B⟩:=U (by omega);obtain ⟨x,z,r⟩:=I m (by omega);refine ⟨b++ [x],by simp [c],λy hy=> ?_,λi y hy=> ?_⟩
    ·rcases List.mem_append.1 hy with hy | hy
     ·exact g y hy
     ·rw [List.mem_singleton.1 hy];exact z
    grind
  obtain ⟨b,c,g,B⟩:=build s (Nat.le_refl _);refine ⟨⟨some a,s,F⟩,b,w,⟨⟨c.symm,iK D b,.inr ⟨a,rfl,λi v hv=> ?_⟩⟩,O,Q,?_,g⟩⟩
  ·obtain ⟨q,x,j,R,p,G⟩:=II D b i v hv;rw [G];rw [<-sO];exact B q x R j v p
  ·have V:reachBytes<=140737488355328:=by decide
   rw [List.length_map,List.length_map] at T;have X:k.length+rest.length<=(k.length+rest.length)*P.bytesOf e:=Nat.le_mul_of_pos_right _ hb;omega
end
section
variable {H:Type} {enc:TypeId×Value->H} {W:World}
theorem li :kG enc Tryz.prog W 3 λa=>∃n,a=[.int .i64 n]/\(Lit.int .i64 n).wf=true:=En (ah.aH 3 tl rfl)
theorem Fw :kG enc Tryz.prog W 2 λa=>∃n,a=[.int .i64 n]/\(Lit.int .i64 n).wf=true:=En (ah.aH 2 rD rfl)
theorem Fx :kG enc Tryz.prog W 28 λa=>∃n,a=[.int .u64 n]/\(Lit.int .u64 n).wf=true:=En (ah.aH 28 BB rfl)
theorem xz {x:Int} (h:(Lit.int .i64 x).wf=true):qY x:=by have:=Zm h;unfold qY;omega
abbrev eI (x:Int):List Value:=be ((ab .i64).enc x)
abbrev eU (x:Int):List Value:=be ((ab .u64).enc x)
abbrev wA (x:bu):List Value:=be (bJ.enc x)
abbrev sd (x:ba):List Value:=be (bA.enc x)
theorem jC :Tryz.prog.cellsOf 3=1:=by kernel_rfl
theorem Jb :Tryz.prog.cellsOf 2=1:=by kernel_rfl
theorem WU :Tryz.prog.cellsOf 28=1:=by kernel_rfl
theorem yC :Tryz.prog.cellsOf 47=5:=by kernel_rfl
theorem Zo :Tryz.prog.cellsOf 48=1:=by kernel_rfl
theorem JH :Tryz.prog.cellsOf 50=2:=by kernel_rfl
theorem YA :Tryz.prog.cellsOf 24=1:=by kernel_rfl
theorem MO :Tryz.prog.cellsOf 22=1:=by kernel_rfl
theorem MN :Tryz.prog.cellsOf 23=1:=by kernel_rfl
theorem Fe :Tryz.prog.cellsOf 26=7:=by kernel_rfl
theorem M2 :kG enc Tryz.prog W 23 λa=>∃(l:Sl) (d:List Int),a=[l.v]/\nI W 1 eI (λ_=>True) l d:=
 Kx (ah.aH 23 nV rfl) eI _ jC (by rw [show Tryz.prog.bytesOf 3=8 by kernel_rfl];omega) (λf a y h c=>by obtain ⟨n,b,_⟩:=li f a y h c;exact ⟨n,b,trivial⟩) λ_=>rfl
theorem M3 :kG enc Tryz.prog W 22 λa=>∃(l:Sl) (e:List Int),a=[l.v]/\nI W 1 eU iN l e:=
 Kx (ah.aH 22 u6 rfl) eU _ WU (by rw [show Tryz.prog.bytesOf 28=8 by kernel_rfl];omega) (λf a y h d=>by obtain ⟨n,b,c⟩:=Fx f a y h d;exact ⟨n,b,uD c⟩) λ_=>rfl
theorem Fu :kG enc Tryz.prog W 47 λc=>∃x,c=wA x/\qY x.iW:=λf c y h b=>by have a:=ah.aH 47 wQ rfl;have d:=yr a h;rw [yC] at d;obtain ⟨a0,g,_⟩:=qR a h b (i:=0) (off:=0) rfl rfl jC li;obtain ⟨a1,j,_⟩:=qR a h b (i:=1) (off:=1) rfl rfl jC li;obtain ⟨a2,k,_⟩:=qR a h b (i:=2) (off:=2) rfl rfl jC li;obtain ⟨a3,l,_⟩:=qR a h b (i:=3) (off:=3) rfl rfl jC li;obtain ⟨a4,n,o⟩:=qR a h b (i:=4) (off:=4) rfl rfl Jb Fw;refine ⟨⟨a0,a1,a2,a3,a4⟩,?_,xz o⟩;have e:c=c.drop 0:=rfl;rw [e,qO (m:=1) g rfl,qO (m:=2) j rfl,qO (m:=3) k rfl,qO (m:=4) l rfl,qO (m:=5) n rfl,List.drop_of_length_le (Nat.le_of_eq d)];rfl
theorem Zq :kG enc Tryz.prog W 48 λa=>∃(l:Sl) (b:List bu),a=[l.v]/\nI W 5 wA (λx=>qY x.iW) l b:=
 Kx (ah.aH 48 wR rfl) wA _ yC (by rw [show Tryz.prog.bytesOf 47=40 by kernel_rfl];omega) Fu λ_=>rfl
def yc (W:World) (q:ba):Prop:=∃a,nI W 5 wA (λx=>qY x.iW) q.Code a
theorem Zs :kG enc Tryz.prog W 50 λa=>∃x,a=sd x/\yc W x:=λf a y h d=>by have b:=ah.aH 50 BC rfl;have c:=yr b h;rw [JH] at c;obtain ⟨a0,j,_⟩:=qR b h d (i:=0) (off:=0) rfl rfl jC li;obtain ⟨l,n,k,g⟩:=qR b h d (i:=1) (off:=1) rfl rfl Zo Zq;refine ⟨⟨a0,l⟩,?_,n,g⟩;have e:a=a.drop 0:=rfl;rw [e,qO (m:=1) j rfl,qO (m:=2) k rfl,List.drop_of_length_le (Nat.le_of_eq c)];rfl
theorem YC :kG enc Tryz.prog W 24 λa=>∃(l:Sl) (b:List ba),a=[l.v]/\nI W 2 sd (yc W) l b:=
 Kx (ah.aH 24 wN rfl) sd _ JH (by rw [show Tryz.prog.bytesOf 50=32 by kernel_rfl];omega) Zs λ_=>rfl
structure tW (W:World) (x:ay):Prop where
 labels:∃ls,nI W 1 eU iN x.bn ls
 table:∃ts,nI W 1 eI (λ_=>True) x.Table ts
 procs:∃ps,nI W 2 sd (yc W) x.aO ps
theorem Ft :kG enc Tryz.prog W 26 λc=>∃x,c=MP x/\tW W x:=λf c y h b=>by have a:=ah.aH 26 BA rfl;have d:=yr a h;rw [Fe] at d;obtain ⟨t,w,l,g⟩:=qR a h b (i:=0) (off:=0) rfl rfl MO M3;obtain ⟨u,z,n,j⟩:=qR a h b (i:=1) (off:=1) rfl rfl MN M2;obtain ⟨a2,o,_⟩:=qR a h b (i:=2) (off:=2) rfl rfl jC li;obtain ⟨a3,p,_⟩:=qR a h b (i:=3) (off:=3) rfl rfl jC li;obtain ⟨a4,q,_⟩:=qR a h b (i:=4) (off:=4) rfl rfl jC li;obtain ⟨a5,r,_⟩:=qR a h b (i:=5) (off:=5) rfl rfl jC li;obtain ⟨v,A,s,k⟩:=qR a h b (i:=6) (off:=6) rfl rfl YA YC;refine ⟨⟨t,u,a2,a3,a4,a5,v⟩,?_,⟨w,g⟩,⟨z,j⟩,A,k⟩;have e:c=c.drop 0:=rfl;rw [e,qO (m:=1) l rfl,qO (m:=2) n rfl,qO (m:=3) o rfl,qO (m:=4) p rfl,qO (m:=5) q rfl,qO (m:=6) r rfl,qO (m:=7) s rfl,List.drop_of_length_le (Nat.le_of_eq d)];rfl
end
theorem Jc {b c:Type} {R:b->c->Prop} {G:c->Prop}:∀ {l:List b},(∀x∈l,∃p,R x p/\G p)->∃m,cM R l m/\∀p∈m,G p
 | [],_=>⟨[],trivial,λp hp=>by cases hp⟩
 | a::l,h=>by obtain ⟨p,d,g⟩:=h a (List.mem_cons_self ..);obtain ⟨m,e,i⟩:=Jc (l:=l) λx f=>h x (List.mem_cons_of_mem _ f);refine ⟨p::m,⟨d,e⟩,λq j=> ?_⟩;grind
section
variable {W:World}
theorem YF {q:ba} (k:yc W q):∃p,jo (whole W) q p/\((∀x∈p.code,qY x.lL)/\p.code.length<=140737488355328):=by
 obtain ⟨a,h⟩:=k;refine ⟨⟨q.Part,a.map bL⟩,⟨rfl,a,h.Bt,rfl⟩,λx b=> ?_,?_⟩
 ·obtain ⟨y,c,rfl⟩:=List.mem_map.1 b;exact h.all y c
 ·show (a.map bL).length<=_;rw [List.length_map];exact h.kf
theorem A6 {x:ay} (k:tW W x):∃c,dN (whole W) x c/\Typed c/\E0 c:=by obtain ⟨j,b⟩:=k.labels;obtain ⟨n,e⟩:=k.table;obtain ⟨l,d⟩:=k.procs;obtain ⟨m,f,g⟩:=Jc λq i=>YF (d.all q i);have r:=f.len;have o:=d.kf;refine ⟨⟨j,n,x.Fuel,x.iO,x.cf,x.Log,m⟩,⟨b.Bt,e.Bt,rfl,rfl,rfl,rfl,l,d.Bt,f⟩,⟨λa h=> ?_,λp hp=>(g p hp).1⟩,⟨b.kf,e.kf,by show m.length<=_;omega,λp hp=>(g p hp).2⟩⟩;have:=b.all a h;omega
end
section
variable {H:Type} {enc:TypeId×Value->H} {W:World}
theorem Zu {v:Value} {b:List Value} (h:v.cells.toList=b) (c:b.length≠1):v=.agg b.toArray:=by
 cases v with
 | agg a=>rw [<-h];rfl
 | _=>subst h;simp [Value.cells] at c
theorem wx {v:Value} {d:DataW H} {f:List MemPlace} (h:DataW.Trod enc Tryz.prog W 0 (λ_=>true) true 26 v d f) (c:(DataW.weights Tryz.prog 26 d).all (· <=reachBytes)=true):
  ∃x:ay,v=aS.enc x/\tW W x:=by
 obtain ⟨fuel,a⟩:=h;obtain ⟨x,e,b⟩:=Ft fuel _ _ a c;exact ⟨x,Zu e (by simp),b⟩
end
end Lf
namespace Lf
open Go Go.Proofs Tryz
theorem u7 {c:aV} (b:Typed c):∀l∈c.labels,iN l:=λl a=>⟨(b.1 l a).1,(b.1 l a).2⟩
section
variable {c:aV} {t:fz} {s:MS}
theorem WW (m:cg c):A0 c t↔tZ c t λi y=>gY c i y.toNat=true:=by
 have key:∀(p:Nat) x y,t.procs[p]? =some x->c.procs[p]? =some y->(rV c t (λ(i:Nat) q=>fl c.labels (i:Int) q=true) x y↔rV c t (λi y=>gY c i y.toNat=true) x y):=λp x y _ a=>by
  have hp:=(m.part y (List.mem_of_getElem? a)).1;have e:∀i:Nat,gY c i y.part.toNat=fl c.labels (i:Int) y.part:=λi=>by unfold gY;rw [show ((y.part.toNat:Nat):Int)=y.part by omega]
  unfold rV;simp only [e]
 unfold A0 tZ;constructor
 ·rintro ⟨d,f,g,h⟩;exact ⟨d,f,λp x y b a=>(key p x y b a).1 (g p x y b a),h⟩
 ·rintro ⟨d,f,g,h⟩;exact ⟨d,f,λp x y b a=>(key p x y b a).2 (g p x y b a),h⟩
theorem FH {h:Hp} {y:aL} (b:db h y t):∀x∈t.procs,x.br.length=8:=λx j=>by
 obtain ⟨d,_,e⟩:=b.procs;obtain ⟨i,f⟩:=List.mem_iff_getElem?.1 j;have:∃z,d[i]? =some z/\cN h z x:=by have k:=e.len;have l:=(List.getElem?_eq_some_iff.1 f).1;obtain ⟨z,g,a⟩:=e.get (i:=i) (List.getElem?_eq_getElem (show i<d.length by omega));rw [f] at g;cases g;exact ⟨_,List.getElem?_eq_getElem (show i<d.length by omega),a⟩
 obtain ⟨z,_,a⟩:=this;rw [<-a.br];rfl
end
section
variable {k:Hp} {x:ay} {y:aL} {c:aV} {t:fz}
structure pw (k:Hp) (c:aV) (t:fz) (pm:Addr) (k':Hp):Prop where
 ex:∃K tm h1,K.c=c/\dh h1 K/\k<=h1/\Has h1 (aD K pm (bh t) tm) k'/\dt c tm (bh t)
 gS:Good c (gY c) (bh t) No No t.tick
 parts:t.parts.length=nP c
 procs:t.procs.length=nQ c
theorem Jd {Q:Option Addr->Int->Hp->Prop} (a:dN k x c) (u:∀l∈c.labels,iN l) (q:∀b,k<=b->(iZ c).1≠0->Q none (iZ c).1 b)
  (s:∀pm b,(iZ c).1=0->k<=b->pw k c ((pP c).list c) pm b->Q (some pm) 0 b):ZU prog x Q k:=by
 unfold ZU;refine H6 (Kf a λv f=> ?_);by_cases d:(iZ c).1=0
 ·rw [d,if_neg (by decide)];have e:=nB d;refine PZ (WQ (a.mono f) e λr B w j=>⟨⟨trivial,trivial⟩,?_⟩);have hp:((pP c).list c).parts.length=nP c:=by show ((List.range (nP c)).map _).length=_;simp
  have i:((pP c).list c).procs.length=nQ c:=by show ((List.range (nQ c)).map _).length=_;simp
  have h:=Hp.le_trans f w;have g:=I5 e (Good.may e (Good.first (fl:=gY c) e) (by show (0:Int)<=_;decide)) (FH j);refine SH (Yv (a.mono h) j u d (Yw e g hp i) λK pm A p b n mk m o z=>s pm b d (Hp.le_trans h (Hp.le_trans m o.le)) ⟨⟨K,A,p,n,mk,Hp.le_trans h m,o,z⟩,g,hp,i⟩)
 ·rw [if_pos (by simpa using d)];exact q v f d
end
section
variable {c:aV} {s:MS} {t:fz}
theorem YI {i:Nat} (a:i<nP c):(bh (s.list c)).part i=s.part i:=by show ((List.range (nP c)).map s.part).getD i kz=_;grind
theorem Jf {i:Nat} (a:i<nQ c):(bh (s.list c)).proc i=s.proc i:=by show ((List.range (nQ c)).map s.proc).getD i nk=_;grind
theorem Ru :(s.list c).parts.length=nP c:=by show ((List.range (nP c)).map _).length=_;simp
theorem Rx :(s.list c).procs.length=nQ c:=by show ((List.range (nQ c)).map _).length=_;simp
theorem Da {K:MK} {pm:Addr} {a:Nat->Nat->Int} (e:K.c=c):aD K pm (bh (s.list c)) a=aD K pm s a:=by
 subst e;unfold aD;have d:dB.first (λi=>og K i ((bh (s.list K.c)).part i) (a i)) (nP K.c)=dB.first (λi=>og K i (s.part i) (a i)) (nP K.c):=sI λi b=>by rw [YI b]
 have f:dB.first (λp=>oi K p ((bh (s.list K.c)).proc p)) (nQ K.c)=dB.first (λp=>oi K p (s.proc p)) (nQ K.c):=sI λi b=>by rw [Jf b]
 rw [d,f];rfl
theorem DQ {a:Nat->Nat->Int} (d:dt c a s):dt c a (bh (s.list c)):=λi id b=>by
 rw [d i id b];unfold mL;by_cases h:id / 2<nQ c/\ax c (id / 2)=i
 ·rw [if_pos h,if_pos h,Jf h.1]
 omega
theorem YK (g:jr c (bh t)) (m:cg c) (hp:t.parts.length=nP c) (f:t.procs.length=nQ c):wq t:=by
 have j:=m.parts;have k:=m.procs;refine ⟨by omega,by omega,λx b=> ?_,λx b=> ?_⟩
 ·obtain ⟨i,a⟩:=List.mem_iff_getElem?.1 b;have h:=(List.getElem?_eq_some_iff.1 a).1;have e:(bh t).part i=x:=mK a;have sp:=g.part i (by omega);rw [e] at sp;have:=sp.jH;have:=sp.gJ;have:=sp.kf.1;exact ⟨by omega,by omega,by omega,λq f=>by have:=sp.kf.2 q f;omega⟩
 ·obtain ⟨i,a⟩:=List.mem_iff_getElem?.1 b;have h:=(List.getElem?_eq_some_iff.1 a).1;have e:(bh t).proc i=x:=mK a;have sp:=g.proc i (by omega);rw [e] at sp;have:=sp.len;exact ⟨by omega,λl d=>⟨by have:=(sp.dJ l d).values;omega,by have:=(sp.dJ l d).waiters;omega⟩⟩
end
def FD (a:MK) (n:Option Addr) (t2:fz) (b:Nat->Nat->Int):dB:=match n with
 | none=>.fact True
 | some p=>aD a p (bh t2) b
structure jF (h k:Hp) (c:aV) (t1 t2:fz) (pm:Addr) (n:Option Addr):Prop where
 ex:∃K tm K2 tm2,K.c=c/\dh h K/\dt c tm (bh t1)/\(n≠none->K2.c=c/\dh h K2/\dt c tm2 (bh t2))/\Has h ((aD K pm (bh t1) tm).star (FD K2 n t2 tm2)) k
section
variable {h k:Hp} {c:aV} {t1 t2 t:fz} {pm a:Addr} {n:Option Addr}
theorem jF.le (q:jF h k c t1 t2 pm n):h<=k:=by obtain ⟨_,_,_,_,_,_,_,_,o⟩:=q.ex;exact o.le
theorem pw.pair (q:pw k c t pm h):∃b,k<=b/\jF b h c t t pm none:=by obtain ⟨K,d,b,e,mk,l,o,g⟩:=q.ex;exact ⟨b,l,⟨K,d,K,d,e,mk,g,λf=>absurd rfl f,o.beside (Has.fact trivial (Hp.le_refl _))⟩⟩
theorem jF.one (q:jF h k c t1 t2 pm n):∃K f b,K.c=c/\dh b K/\dt c f (bh t1)/\h<=b/\Has b (aD K pm (bh t1) f) k/\∀d g i,Has b (aD K pm d g) i->dt c g d->jF h i c (d.list c) t2 pm n:=by obtain ⟨K,f,l,v,e,mk,s,m,o⟩:=q.ex;obtain ⟨b,j,r,_,put⟩:=o.fst;refine ⟨K,f,b,e,mk.mono j,s,j,r,λd g i p u=>⟨K,g,l,v,e,mk,DQ u,m,?_⟩⟩;rw [Da e];exact put _ _ p
theorem jF.two (q:jF h k c t1 t2 pm (some a)):∃K f b,K.c=c/\dh b K/\dt c f (bh t2)/\h<=b/\Has b (aD K a (bh t2) f) k/\∀d g j,Has b (aD K a d g) j->dt c g d->jF h j c t1 (d.list c) pm (some a):=by obtain ⟨K,f,l,y,e,mk,v,r,o⟩:=q.ex;obtain ⟨i,p,x⟩:=r (by simp);obtain ⟨b,m,u,_,put⟩:=o.snd;refine ⟨l,y,b,i,p.mono m,x,m,u,λd g j s w=>⟨K,f,l,g,e,mk,v,λ_=>⟨i,p,DQ w⟩,?_⟩⟩;unfold FD;dsimp only;rw [Da i];exact put _ _ s
theorem jF.base {P:Program} {g:FuncId} {args:List Value} {sh:Shape} {K0 K:sh.T->Hp->Prop} (q:jF h k c t1 t2 pm n) (r:aa P g args sh (λx b=>h<=b/\K0 x b) h) (s:∀x b d,h<=b->K0 x b->jF b d c t1 t2 pm n->K x d):aa P g args sh K k:=by obtain ⟨j,w,m,y,e,mk,v,f,o⟩:=q.ex;refine tO o r ?_;rintro x b d ⟨l,p⟩ u;exact s x b d l p ⟨j,w,m,y,e,mk.mono l,v,λi=>⟨(f i).1,(f i).2.1.mono l,(f i).2.2⟩,u⟩
theorem jF.grow {b:Hp} (q:jF h k c t1 t2 pm n) (l:k<=b):jF h b c t1 t2 pm n:=by obtain ⟨d,j,f,m,e,mk,i,g,o⟩:=q.ex;exact ⟨d,j,f,m,e,mk,i,g,o.grow l⟩
theorem jF.alone (q:jF h k c t1 t2 pm n):jF h k c t1 t1 pm none:=by obtain ⟨b,d,i,l,e,mk,g,j,o⟩:=q.ex;exact ⟨b,d,b,d,e,mk,g,λf=>absurd rfl f,(Has.left o).beside (Has.fact trivial (Hp.le_refl _))⟩
theorem Uh {s:MS} {p v:Int}:TW (zip c s p v).1=TW s:=by
 unfold zip;split
 ·rfl
 ·split
  ·exact qQ rfl
  ·exact B8 rfl
end
section
variable {h k:Hp} {c:aV} {t1 t2 t:fz} {pm a:Addr} {n:Option Addr}
def j3 (c:aV) (t:fz):fz:=(iJ c fF (gY c) (bh t)).list c
def qi (c:aV) (t:fz) (p v:Int):fz:=(zip c (bh t) p v).1.list c
def lY (c:aV) (t:fz) (p:Int):fz:=(ig c (bh t) p).1.list c
end
section
variable {h:Hp}
theorem Lm {a n:Int} {Q:Bool->Hp->Prop} (d:iN a) (b:0<=n) (c:n<=63) (f:Q (bit a n.toNat) h):SE prog a n Q h:=by
 unfold SE;refine aK ⟨λ_=>b,aK ?_⟩;have e:(decide (n>=0)&&decide (n<=63))=true:=by simp;omega
 rw [e,X0 d b c,Bool.true_and];exact f
theorem OJ {a b:Int} {Q:Bool->Hp->Prop} (j:iN a) (hb:iN b) (r:Q (iE a b) h):Q4 prog a b Q h:=by
 unfold Q4;refine mX (n:=64) rfl (by omega) (λn k=>k=h/\∀m:Nat,m<n->bit a m=true->bit b m=true) ⟨rfl,λm c=>by omega⟩ ?_ ?_
 ·rintro n o k ⟨rfl,d⟩ K i;refine zmx (Lm j (by omega) (by omega) ?_);have p:(bit a n=true->bit b n=true)->K (yw ((n:Int)+1)) k:=λq=>i k ⟨rfl,λm c=>by
   grind⟩
  rw [show ((n:Int)).toNat=n from rfl];cases f:bit a n with
  | false=>refine ⟨λe=>(by cases e),λ_=>⟨false,aK ?_⟩⟩;grind
  | true=>
   refine ⟨λ_=>zmx (Lm hb (by omega) (by omega) (aK ?_)),λe=>(by cases e)⟩;rw [show ((n:Int)).toNat=n from rfl];cases g:bit b n with
   | false=>
    rw [if_pos (by simp)];have:iE a b=false:=by refine Bool.eq_false_iff.2 λl=> ?_;have:=gZ.1 l n o f;rw [g] at this;cases this
    grind
   | true=>grind
 ·rintro k ⟨rfl,d⟩;have:iE a b=true:=gZ.2 λm c=>d m c;grind
end
section
variable {c:aV} {s:MS} {t:fz}
structure GT (c:aV) (t:fz):Prop where
 gS:Good c (gY c) (bh t) No No t.tick
 parts:t.parts.length=nP c
 procs:t.procs.length=nQ c
theorem GT.of (m:cg c) (g:Good c (gY c) s No No s.tick) (a:s.tick<=4611686018427387904):GT c (s.list c):=
 ⟨I5 m (Good.may m g a) λx b=>by
  obtain ⟨p,hp,rfl⟩:=List.mem_map.1 b;exact (g.proc p (List.mem_range.1 hp)).br,Ru,Rx⟩
theorem Ui {D:Int->Int->Int->Int} (m:cg c) {fl:Nat->Nat->Bool} (g:Good c fl s No No s.tick):(iJ c D fl s).tick=s.tick+1:=by have b:=(g.qI (T':=s.tick+1) (by omega)).due (i:=iv c s.tick);obtain ⟨_,a⟩:=Good.turns (D:=D) m (m.je (t:=s.tick)) c.fuel.toNat b rfl;have a:(kQ c D fl (iv c s.tick) c.fuel.toNat (gQ c s (iv c s.tick))).tick=s.tick:=a;show (kQ c D fl (iv c s.tick) c.fuel.toNat (gQ c s (iv c s.tick))).tick+1=_;rw [a]
theorem GT.tick (m:cg c) (g:GT c t) (a:t.tick<4611686018427387904):GT c (j3 c t)/\(j3 c t).tick=t.tick+1:=by have e:(iJ c fF (gY c) (bh t)).tick=t.tick+1:=Ui m g.gS;exact ⟨GT.of m (g.gS.uV m) (by omega),e⟩
theorem GT.inj (m:cg c) (g:GT c t) (a:t.tick<=4611686018427387904) {p v:Int}:GT c (qi c t p v)/\(qi c t p v).tick=t.tick:=by have e:(zip c (bh t) p v).1.tick=t.tick:=aaJ;exact ⟨GT.of m (by rw [e];exact g.gS.Be) (by omega),e⟩
theorem GT.kill (m:cg c) (g:GT c t) (a:t.tick<=4611686018427387904) {p:Int}:GT c (lY c t p)/\(lY c t p).tick=t.tick:=by have e:(ig c (bh t) p).1.tick=t.tick:=R6;exact ⟨GT.of m (by rw [e];exact g.gS.kill m) (by omega),e⟩
theorem GT.le (m:cg c) (g:GT c t):wq t:=YK (g.gS.pK m) m g.parts g.procs
theorem GT.may (m:cg c) (g:GT c t) (a:t.tick<=4611686018427387904):A0 c t:=by have:=Good.may m g.gS a;rw [ve g.parts g.procs] at this;exact (WW m).2 this
theorem Ep (m:cg c):GT c ((pP c).list c)/\((pP c).list c).tick=0:=⟨GT.of m (Good.first m) (by show (0:Int)<=_;decide),rfl⟩
end
section
variable {h k:Hp}
theorem tF {a:Type} {b:Bool} {A:(a->Hp->Prop)->Hp->Prop} {K:a->Hp->Prop} (hb:b=false) (x:a) (c:K x h):cG (some b) A K h:=⟨λe=>(by grind),λ_=>⟨x,c⟩⟩
theorem pR {a:Type} {b:Bool} {A:(a->Hp->Prop)->Hp->Prop} {K:a->Hp->Prop} (hb:b=true) (c:A K h):cG (some b) A K h:=⟨λ_=>c,λe=>(by grind)⟩
variable {c:aV} {t1 t2 t:fz} {pm:Addr} {n:Option Addr}
end
theorem Ie {P:Program} {t:Nat} {x y:Operand} {h:Hp} {a:Array Value} (L:List (Field×IntKind×Int)) (l:P.underlying t=some (.struct (L.map (·.1)).toArray)) (i:P.eqGuardType P.depth t=false) (hp:P.stoodInHeld t=false)
  (g:∀q∈L,q.1.name≠ "_" ∧P.underlying q.1.type=some (.int q.2.1)∧a[q.1.offset]? =some (.int q.2.1 q.2.2)):
  ic P (cE .eql t x y (.agg a) (.agg a)) h (.bool true):=by
 have c:(L.map λq=>(q.1,q.2.1,q.2.2,q.2.2)).map (·.1)=L.map (·.1):=by rw [List.map_map];rfl
 have d:((L.map λq=>(q.1,q.2.1,q.2.2,q.2.2)).all λq=>q.2.2.1==q.2.2.2)=true:=by simp
 rw [<-d];refine Lb (L.map λq=>(q.1,q.2.1,q.2.2,q.2.2)) (by rw [c];exact l) i hp λq j=> ?_;obtain ⟨m,k,rfl⟩:=List.mem_map.1 j;obtain ⟨e,f,b⟩:=g m k;exact ⟨e,f,b,b⟩
theorem aay {P:Program} {t e n:Nat} {x y:Operand} {h:Hp} {a:Array Value} (l:P.underlying t=some (.array n e)) (b:(P.info? e).isSome=true) (f:P.underlying e=some (.int .i64)) (d:P.cellsOf e=1) (g:P.eqGuardType P.depth t=false)
  (m:∀j,j<n->∃v,a[j]? =some (.int .i64 v)):ic P (cE .eql t x y (.agg a) (.agg a)) h (.bool true):=by
 obtain ⟨i,b⟩:=Option.isSome_iff_exists.1 b;refine Jk λw=> ?_;have c:=run_equalIn_array (P:=P) (w:=w) 9999 a a l b;rw [d,eqI 9998 f a _ w λj k=>m j (List.mem_range.1 k)] at c;unfold cE;simp only [Sem.run_bind,run_eqGuard_agg w .eql t x y a a g,Result.andThen_ok,run_eql_struct];rw [show (10000:Nat)=9999+1 from rfl,c];rfl
section
variable {h:Hp} {Q:Bool->Hp->Prop}
theorem AT {sh:Shape} {sz:Nat} {s1 s2:Sl} {a c:List sh.T} {B:sh.T->sh.T->(Bool->Hp->Prop)->Hp->Prop} (g:Rs h sh sz s1 a) (r2:Rs h sh sz s2 c) (e:∀x,(be (sh.enc x)).length=sz) (f:0<sz) (q:a.length=c.length)
  (A:a.length<=140737488355328) (hb:∀(i:Nat) x y,a[i]? =some x->c[i]? =some y->∀K:Bool->Hp->Prop,K true h->B x y K h) (s:Q true h):
  (if (((s1.len:Nat):Int) !=((s2.len:Nat):Int))=true then Q false h else
   aA (α1:=Int) (λj t b=>(if (decide (t<((s1.len:Nat):Int)))=true then
    ((bB s1.base s1.len t)/\aN none sh b (sat s1.base sz t) λx=>((bB s2.base s2.len t)/\aN none sh b (sat s2.base sz t) λw=>
     B x w (λr d=>(if (!r)=true then Q false d else j (yw (t+(1:Int))) d)) b))
    else Q true b)) (0:Int) h):=by
 have l:s1.len=a.length:=g.1;have m:s2.len=c.length:=r2.1;rw [if_neg (by rw [l,m,q];simp)];refine mX (n:=a.length) (by omega) (by omega) (λ_ o=>o=h) rfl ?_ ?_
 ·rintro i z k rfl K p;refine Rs.get (sh:=sh) g e f (i:=(i:Int)) (by omega) (by omega) λx u=> ?_;refine Rs.get (sh:=sh) r2 e f (i:=(i:Int)) (by omega) (by omega) λy v=> ?_;refine hb i x y u v _ ?_;rw [if_neg (by simp)];exact p k rfl
 ·rintro k rfl;exact s
theorem Ln {a b:Sl} {c:List Int} (k:Is h a c) (l:Is h b c) (f:c.length<=140737488355328) (g:Q true h):XJ prog a b ⟨116, #[], #[]⟩ Q h:=by unfold XJ;refine zkf ?_;unfold zfe;refine AT (sh:=ab .i64) (B:=λx y K h=>dM prog tb (.func (.func 116) #[] #[]) [(.int .i64 x),(.int .i64 y)] aQ K h) k l (λ_=>rfl) (by decide) rfl f (λi (x:Int) (y:Int) j d K e=> ?_) g;rw [j] at d;cases d;refine tP rfl (Pl (x:=x) (y:=x) ?_);unfold zxu;simpa using e
theorem OL {a b:Sl} {c:List Int} (k:Is h a c) (l:Is h b c) (f:c.length<=140737488355328) (g:Q true h):U1 prog a b ⟨164, #[], #[]⟩ Q h:=by unfold U1;refine zgj ?_;unfold zdg;refine AT (sh:=ab .i64) (B:=λx y K h=>dM prog tb (.func (.func 164) #[] #[]) [(.int .i64 x),(.int .i64 y)] aQ K h) k l (λ_=>rfl) (by decide) rfl f (λi (x:Int) (y:Int) j d K e=> ?_) g;rw [j] at d;cases d;refine tP rfl (NA (x:=x) (y:=x) ?_);unfold ztd;simpa using e
theorem Uj {a b:Sl} {d:List cU} (k:AY h a d) (l:AY h b d) (g:d.length<=140737488355328) (c:Q true h):RM prog a b ⟨118, #[], #[]⟩ Q h:=by
 unfold RM;refine zdl ?_;unfold zbl;refine AT (sh:=cR) (B:=λx y K h=>dM prog tb (.func (.func 118) #[] #[]) [x.v,y.v] aQ K h) k l (λ_=>rfl) (by decide) rfl g (λi (x:cU) (y:cU) j e K f=> ?_) c;rw [j] at e;cases e;refine tP rfl (ztz (x:=x) (y:=x) ?_);unfold znp;refine ⟨true,Ie [(⟨ "Tick",2,0,false, "", "",0⟩,.i64,x.fE),(⟨ "Proc",3,1,false, "", "",8⟩,.i64,x.da),(⟨ "Value",2,2,false, "", "",16⟩,.i64,x.dQ)]
   (ah.aH 133 uZ rfl) (by kernel_rfl) (by kernel_rfl) (λq c=> ?_),f⟩
 simp only [List.mem_cons,List.not_mem_nil,or_false] at c;rcases c with rfl | rfl | rfl
 ·exact ⟨by simp,ah.aH 2 rD rfl,rfl⟩
 ·exact ⟨by simp,ah.aH 3 tl rfl,rfl⟩
 ·exact ⟨by simp,ah.aH 2 rD rfl,rfl⟩
theorem Rz {a b:Sl} {d:List bf} (k:rW h a d) (l:rW h b d) (g:d.length<=140737488355328) (c:Q true h):Q6 prog a b ⟨166, #[], #[]⟩ Q h:=by
 unfold Q6;refine zcw ?_;unfold zba;refine AT (sh:=aC) (B:=λx y K h=>dM prog tb (.func (.func 166) #[] #[]) [x.v,y.v] aQ K h) k l (λ_=>rfl) (by decide) rfl g (λi (x:bf) (y:bf) j e K f=> ?_) c;rw [j] at e;cases e;refine tP rfl (zsr (x:=x) (y:=x) ?_);unfold zmr;refine ⟨true,Ie [(⟨ "Proc",3,0,false, "", "",0⟩,.i64,x.da),(⟨ "Value",2,1,false, "", "",8⟩,.i64,x.dQ)]
   (ah.aH 191 sC rfl) (by kernel_rfl) (by kernel_rfl) (λq c=> ?_),f⟩
 simp only [List.mem_cons,List.not_mem_nil,or_false] at c;rcases c with rfl | rfl
 ·exact ⟨by simp,ah.aH 3 tl rfl,rfl⟩
 ·exact ⟨by simp,ah.aH 2 rD rfl,rfl⟩
theorem RB {a b:bw} {p:bq} (c:gO h a p) (d:gO h b p) (g:vQ p) (i:Q true h):XL prog a b Q h:=by unfold XL;obtain ⟨o,l,e⟩:=c.waiters;obtain ⟨n,k,j⟩:=d.waiters;have:o=n:=HS aax (e.trans j.symm);subst this;obtain ⟨m,f⟩:=g;rw [<-e,List.length_map] at f;refine OB (is:=⟨164, #[], #[]⟩) (OL c.values d.values m ?_);refine pR rfl (zuc (is:=⟨166, #[], #[]⟩) (Rz l k f (aK (aK (aK ?_)))));rw [c.taken,d.taken,c.dropped,d.dropped];simpa using i
theorem ON {a b:Sl} {e f:List bw} {c:List bq} (r:Rs h bd 4 a e) (s:Rs h bd 4 b f) (d:cM (gO h) e c) (hb:cM (gO h) f c) (w:c.length<=140737488355328) (m:∀p∈c,vQ p) (n:Q true h):
  SC prog a b ⟨122, #[], #[]⟩ Q h:=by
 unfold SC;have t:=d.len;have u:=hb.len;refine zed ?_;unfold zbz;refine AT (sh:=bd) (B:=λx y K h=>dM prog tb (.func (.func 122) #[] #[]) [x.v,y.v] aQ K h) r s (λ_=>rfl) (by decide) (by omega) (by omega) (λi (x:bw) (y:bw) o q K l=> ?_) n;obtain ⟨z,g,j,k⟩:=xx d hb o q;exact tP rfl (Qc (x:=x) (y:=y) (RB j k (m z (List.mem_of_getElem? g)) l))
theorem RE {a b:Sl} {e f:List Sl} {c:List (List Int)} (r:Rs h ak 1 a e) (s:Rs h ak 1 b f) (d:cM (Is h) e c) (hb:cM (Is h) f c) (w:c.length<=140737488355328) (m:∀p∈c,p.length<=140737488355328) (n:Q true h):
  UO prog a b ⟨114, #[], #[]⟩ Q h:=by
 unfold UO;have t:=d.len;have u:=hb.len;refine zjf ?_;unfold zeu;refine AT (sh:=ak) (B:=λx y K h=>dM prog tb (.func (.func 114) #[] #[]) [x.v,y.v] aQ K h) r s (λ_=>rfl) (by decide) (by omega) (by omega) (λi (x:Sl) (y:Sl) o q K l=> ?_) n;obtain ⟨z,g,j,k⟩:=xx d hb o q;refine tP rfl (Ou (a:=x) (b:=y) ?_);unfold zux;exact zte (is:=⟨116, #[], #[]⟩) (Ln j k (m z (List.mem_of_getElem? g)) l)
theorem RH {a b:bx} {p:cY} (c:fe h a p) (d:fe h b p) (r:p.log.length<=140737488355328/\p.az.length<=140737488355328/\p.al.length<=140737488355328/\∀q∈p.al,q.length<=140737488355328) (s:Q true h):XC prog a b Q h:=by
 unfold XC;obtain ⟨i,m,e⟩:=c.log;obtain ⟨j,o,n⟩:=d.log;have:i=j:=HS OE (e.trans n.symm);subst this;obtain ⟨y,t,k⟩:=c.al;obtain ⟨z,u,l⟩:=d.al;obtain ⟨f,v,w,x⟩:=r;rw [<-e,List.length_map] at f;have g:(a.Cursor==b.Cursor)=true:=by rw [c.ae,d.ae];simp
 rw [g];refine pR rfl (zvh (is:=⟨118, #[], #[]⟩) (Uj m o f (aK (aK (aK ?_)))));rw [show ((((true&&true)&&(a.j8==b.j8))&&(a.cS==b.cS)))=true by rw [c.lost,d.lost,c.forbidden,d.forbidden];simp];refine pR rfl (zte (is:=⟨116, #[], #[]⟩) (Ln c.az d.az v (aK ?_)));exact pR rfl (Ow (is:=⟨114, #[], #[]⟩) (RE t u k l w x (aK s)))
theorem RL {a b:aR} {p:ai} (c:cN h a p) (d:cN h b p) (f:p.af.length<=140737488355328/\∀l∈p.af,vQ l) (r:Q true h):XE prog a b Q h:=by
 unfold XE;obtain ⟨z,o,i⟩:=c.af;obtain ⟨A,q,k⟩:=d.af;have g: [a.bV,a.bW,a.bX,a.bY,a.bZ,a.b9,a.cc,a.cd]=[b.bV,b.bW,b.bX,b.bY,b.bZ,b.b9,b.cc,b.cd]:=c.br.trans d.br.symm;simp only [List.cons.injEq,and_true] at g;obtain ⟨s,t,r2,u,v,w,x,y⟩:=g;refine aK ⟨true,λ_=> ?_,?_⟩
 ·rw [s,t,r2,u,v,w,x,y];refine aay (n:=8) (e:=2) (ah.aH 65 BD rfl) (by kernel_rfl) (ah.aH 2 rD rfl) (by kernel_rfl) (by kernel_rfl) λj m=> ?_
  match j,m with
  | 0,_=>exact ⟨_,rfl⟩
  | 1,_=>exact ⟨_,rfl⟩
  | 2,_=>exact ⟨_,rfl⟩
  | 3,_=>exact ⟨_,rfl⟩
  | 4,_=>exact ⟨_,rfl⟩
  | 5,_=>exact ⟨_,rfl⟩
  | 6,_=>exact ⟨_,rfl⟩
  | 7,_=>exact ⟨_,rfl⟩
  | n+8,h=>omega
 refine aK (aK (aK (aK (aK ?_))));rw [show ((((((((a.State==b.State)&&(a.PC==b.PC))&&true)&&(a.Cursor==b.Cursor))&&(a.Timer==b.Timer))&&(a.gA==b.gA))&&(a.j9==b.j9)))=true by
  rw [c.state,d.state,c.pc,d.pc,c.ae,d.ae,c.timer,d.timer,c.bF,d.bF,c.cn,d.cn];simp]
 exact pR rfl (zxo (is:=⟨122, #[], #[]⟩) (ON o q i k f.1 f.2 (aK r)))
theorem OO {a b:Sl} {e f:List bx} {c:List cY} (s:Rs h aY 6 a e) (t:Rs h aY 6 b f) (d:cM (fe h) e c) (hb:cM (fe h) f c) (A:c.length<=140737488355328)
  (m:∀p∈c,p.log.length<=140737488355328/\p.az.length<=140737488355328/\p.al.length<=140737488355328/\∀q∈p.al,q.length<=140737488355328) (n:Q true h):Sz prog a b ⟨65, #[], #[]⟩ Q h:=by
 unfold Sz;have u:=d.len;have w:=hb.len;refine zec ?_;unfold zby
 refine AT (sh:=aY) (B:=λx y K h=>dM prog tb (.func (.func 65) #[] #[]) [x.v,y.v] aQ K h) s t (λ_=>rfl) (by decide) (by omega) (by omega) (λi (x:bx) (y:bx) o r K l=> ?_) n;obtain ⟨z,g,j,k⟩:=xx d hb o r;exact tP rfl (P6 (x:=x) (y:=y) (RH j k (m z (List.mem_of_getElem? g)) l))
theorem OP {a b:Sl} {e f:List aR} {c:List ai} (s:Rs h aE 15 a e) (t:Rs h aE 15 b f) (d:cM (cN h) e c) (hb:cM (cN h) f c) (A:c.length<=140737488355328)
  (n:∀p∈c,p.af.length<=140737488355328/\∀l∈p.af,vQ l) (o:Q true h):P5 prog a b ⟨67, #[], #[]⟩ Q h:=by
 unfold P5;have u:=d.len;have w:=hb.len;refine zcn ?_;unfold zax;refine AT (sh:=aE) (B:=λx y K h=>dM prog tb (.func (.func 67) #[] #[]) [x.v,y.v] aQ K h) s t (λ_=>rfl) (by decide) (by omega) (by omega) (λi (x:aR) (y:aR) q r K m=> ?_) o;obtain ⟨z,g,j,k⟩:=xx d hb q r;exact tP rfl (P9 (x:=x) (y:=y) (RL j k (n z (List.mem_of_getElem? g)) m))
theorem OQ {a b:aL} {s:fz} (d:db h a s) (e:db h b s) (c:wq s) (m:Q true h):Cp prog a b Q h:=by
 unfold Cp;obtain ⟨q,l,g⟩:=d.parts;obtain ⟨t,o,j⟩:=e.parts;obtain ⟨r,n,i⟩:=d.procs;obtain ⟨u,p,k⟩:=e.procs;have f:(a.fE==b.fE)=true:=by rw [d.tick,e.tick];simp
 rw [f];refine pR rfl (zxn (is:=⟨65, #[], #[]⟩) (OO l o g j c.parts c.log (aK ?_)));exact pR rfl (zsp (is:=⟨67, #[], #[]⟩) (OP n p i k c.procs c.af (aK m)))
end
def im (c:aV) (a i:Int):Bool:=decide (0<=i)&&decide (i<(nP c:Int))&&iE (c.labels.getD i.toNat 0) a
def fG (c:aV) (a p:Int):Bool:=decide (0<=p)&&decide (p<(nQ c:Int))&&im c a (((c.procs[p.toNat]?).map (·.part)).getD 0)
def xB :cY:=⟨0,[],0,0,[],[]⟩
def xC :ai:=⟨0,0,List.replicate 8 0,0,0,false,0,[]⟩
def ln (c:aV) (t:fz) (a:Int):fz:=
 ⟨t.tick,t.parts.mapIdx λi x=>if im c a (i:Int)=true then x else xB,t.procs.mapIdx λp x=>if fG c a (p:Int)=true then x else xC⟩
structure lU (s:fz):Prop where
 parts:s.parts.length<=1000
 procs:s.procs.length<=1000
 log:∀x∈s.parts,x.log.length<=10000/\x.az.length<=1000/\x.al.length<=1000/\∀q∈x.al,q.length<=1000
 af:∀x∈s.procs,x.af.length<=1000/\∀l∈x.af,l.values.length<=1000/\l.waiters.length<=1000
theorem lU.le {s:fz} (f:lU s):wq s:=by
 refine ⟨by have:=f.parts;omega,by have:=f.procs;omega,λx b=> ?_,λx b=> ?_⟩
 ·obtain ⟨d,a,h,e⟩:=f.log x b;exact ⟨by omega,by omega,by omega,λq g=>by have:=e q g;omega⟩
 ·obtain ⟨d,a⟩:=f.af x b;exact ⟨by omega,λl c=>⟨by have:=(a l c).1;omega,by have:=(a l c).2;omega⟩⟩
theorem GT.kf {c:aV} {t:fz} (m:cg c) (g:GT c t):lU t:=by
 have h:=g.gS.pK m;have hp:=g.parts;have f:=g.procs;have k:=m.parts;have n:=m.procs;refine ⟨by omega,by omega,λx b=> ?_,λx b=> ?_⟩
 ·obtain ⟨i,a⟩:=List.mem_iff_getElem?.1 b;have j:=(List.getElem?_eq_some_iff.1 a).1;have e:(bh t).part i=x:=mK a;have sp:=h.part i (by omega);rw [e] at sp;have:=sp.jH;have:=sp.gJ;have:=sp.kf.1;have:=m.log;exact ⟨by omega,by omega,by omega,λq f=>by have:=sp.kf.2 q f;omega⟩
 ·obtain ⟨i,a⟩:=List.mem_iff_getElem?.1 b;have j:=(List.getElem?_eq_some_iff.1 a).1;have e:(bh t).proc i=x:=mK a;have sp:=h.proc i (by omega);rw [e] at sp;have:=sp.len;exact ⟨by omega,λl d=>⟨by have:=(sp.dJ l d).values;omega,by have:=(sp.dJ l d).waiters;omega⟩⟩
section
variable {h k:Hp} {x:ay} {c:aV} {a:Int} {Q:Bool->Hp->Prop}
theorem HU {g:FuncId} (o:∀ {u v:Int} {Q:Bool->Hp->Prop},iN u->iN v->Q (iE u v) h->aa prog g [(.int .u64 u),(.int .u64 v)] aQ Q h) {i:Int} (j:dN h x c) (s:∀l∈c.labels,iN l) (n:iN a) (b:Q (im c a i) h):
 aF ((decide (i>=(0:Int)))&&(decide (i<((x.bn.len:Nat):Int)))) λy=>
 ((y=true->(bB x.bn.base x.bn.len i))/\aN (some y) (ab .u64) h (sat x.bn.base 1 i) λz=>
 cG (some y) (aa prog g [(.int .u64 z),(.int .u64 a)] aQ) (λr d=>
 aF (y&&r) λw=>
 Q w d) h):=by
  have p:x.bn.len=c.labels.length:=j.labels.1;have e:(decide (i>=0)&&decide (i<((x.bn.len:Nat):Int)))=(decide (0<=i)&&decide (i<(nP c:Int))):=by rw [p];rfl
  refine aK ?_;rw [e];unfold im at b;generalize f:(decide (0<=i)&&decide (i<(nP c:Int)))=y at b;refine Rs.qf (sh:=ab .u64) j.labels (0:Int) (λ_=>rfl) (by decide) (λt=> ?_) λ(l:Int) q=> ?_
  ·rw [t] at f;simp only [Bool.and_eq_true,decide_eq_true_eq] at f;exact ⟨f.1,f.2⟩
  ·cases y with
   | false=>exact tF rfl false (aK b)
   | true=>
    have d:=q rfl;have m:c.labels.getD i.toNat 0=l:=by rw [List.getD_eq_getElem?_getD,d];rfl
    rw [m] at b;exact pR rfl (o (s l (List.mem_of_getElem? d)) n (aK b))
theorem HV {i:Int} (j:dN h x c) (g:∀l∈c.labels,iN l) (f:iN a) (b:Q (im c a i) h):Cq prog x i a Q h:=by unfold Cq;exact HU (λd e b=>zxw (H7 d e b)) j g f b
theorem HX {g:FuncId} (B:∀ {i:Int} {Q:Bool->Hp->Prop},Q (im c a i) h->aa prog g [x.v,(.int .i64 i),(.int .u64 a)] aQ Q h) {p:Int} (F:dN h x c) (b:Q (fG c a p) h):
 aF ((decide (p>=(0:Int)))&&(decide (p<((x.aO.len:Nat):Int)))) λy=>
 ((y=true->(bB x.aO.base x.aO.len p))/\aN (some y) (ab .i64) h (Addr.add (sat x.aO.base 2 p) 0) λz=>
 cG (some y) (aa prog g [x.v,(.int .i64 z),(.int .u64 a)] aQ) (λr A=>
 aF (y&&r) λG=>
 Q G A) h):=by
  obtain ⟨m,s,f⟩:=F.procs;have n:x.aO.len=c.procs.length:=by rw [s.1,f.len]
  have e:(decide (p>=0)&&decide (p<((x.aO.len:Nat):Int)))=(decide (0<=p)&&decide (p<(nQ c:Int))):=by rw [n];rfl
  refine aK ?_;rw [e];unfold fG at b;generalize d:(decide (0<=p)&&decide (p<(nQ c:Int)))=y at b;cases y with
  | false=>exact ⟨λe=>(by cases e),(0:Int),λe=>(by cases e),tF rfl false (aK b)⟩
  | true=>
   simp only [Bool.and_eq_true,decide_eq_true_eq] at d;have o:p.toNat<m.length:=by have:=f.len;unfold nQ at d;omega
   obtain ⟨q,D,E⟩:=f.get (i:=p.toNat) (List.getElem?_eq_getElem o);obtain ⟨u,z,t,C⟩:=Rw.read s (λ_=>rfl) (by decide) d.1 (by rw [n];exact d.2);rw [List.getElem?_eq_getElem o] at t;cases t;have w:m[p.toNat].Part=q.part:=E.1;rw [D] at b;refine ⟨λ_=>u,m[p.toNat].Part,λ_=>λj v l=> ?_,?_⟩
   ·match j,l with
    | 0,l=>exact C 0 v l
   ·rw [w];exact pR rfl (B (aK b))
theorem CA {p:Int} (d:dN h x c) (f:∀l∈c.labels,iN l) (e:iN a) (b:Q (fG c a p) h):Co prog x p a Q h:=by unfold Co;exact HX (λb=>GD (HV d f e b)) d b
end
section
variable {h k:Hp}
abbrev eS :Sl->List Value:=λx=>be (ak.enc x)
theorem OR {x:bx} {p:cY} {Q:bx->Hp->Prop} (a:fe h x p) (P:p.log.length<=10000/\p.az.length<=1000/\p.al.length<=1000/\∀q∈p.al,q.length<=1000)
  (R:∀r c,h<=c->fe c r p->Q r c):Xw prog x Q h:=by
 unfold Xw;obtain ⟨Y,n2,n3,Z⟩:=P;obtain ⟨J,N,t⟩:=a.log;obtain ⟨d,U,s⟩:=a.al;have T:=s.len;rw [<-t,List.length_map] at Y;refine Ol ?_;unfold LI;refine qN (enc:=λx=>be (cR.enc x)) (ah.aH 112 qE rfl) N (by decide) (λ_=>rfl) (λ_=>rfl) rfl ⟨by omega,by omega⟩ λC k1 m o1=>⟨⟨trivial,trivial⟩,?_⟩;refine EH ?_;unfold AG;refine qN (enc:=λx:Int=>be ((ab .i64).enc x)) (ah.aH 23 nV rfl) (Rw.mono m a.az) (by decide) (λ_=>rfl) (λ_=>rfl) rfl ⟨by omega,by omega⟩ λl2 A E o2=> ?_;refine zse ?_;unfold zlm;have B:=Hp.le_trans m E;refine qN (enc:=eS) (ah.aH 113 uY rfl) (Rw.mono B U) (by decide) (λ_=>rfl) (λ_=>rfl) rfl ⟨by omega,by omega⟩ λX k3 b1 H=> ?_;have a8:=(H.fJ (λ_=>rfl)).1;refine mX (n:=d.length) (by omega) (by omega) (λi g=>∃hb b,A<=hb/\cM (Is hb) b (p.al.take i)/\Has hb (eM 1 eS X (b++d.drop i)) g) ⟨A,[],Hp.le_refl _,trivial,by simpa using H⟩ ?_ ?_
 ·rintro i u g ⟨hb,b,f,e,o⟩ K L;have M:b.length=i:=by rw [e.len,List.length_take];omega
  have j:(b++d.drop i)[i]? =some d[i]:=by grind
  have V:i<(b++d.drop i).length:=(List.getElem?_eq_some_iff.1 j).1;obtain ⟨q,w,S⟩:=s.get (i:=i) (List.getElem?_eq_getElem u);have a9:=Z q (List.mem_of_getElem? w);refine Rs.get (sh:=ak) (o.fJ (λ_=>rfl)) (λ_=>rfl) (by omega) (by omega) (by omega) λ(y:Sl) z=> ?_;rw [show ((i:Int)).toNat=i from rfl,j] at z;cases z;refine tO (sh:=ak) (K0:=λl c=>hb<=c/\Is c l q) o (EH ?_) ?_
  ·unfold AG;exact qN (enc:=λx:Int=>be ((ab .i64).enc x)) (ah.aH 23 nV rfl) (Rw.mono (Hp.le_trans B f) S) (by decide) (λ_=>rfl) (λ_=>rfl) rfl ⟨by omega,by omega⟩ λl k C n=>⟨C,n.fJ (λ_=>rfl)⟩
  ·rintro (l:Sl) c b0 ⟨F,O⟩ G;refine ⟨⟨trivial,trivial⟩,G.rm (sh:=ak) (λ_=>rfl) (by decide) V,?_⟩;refine G.pH (i:=i) (x':=l) (off:=0) (new:=[l.v]) (λ_=>rfl) j (by simp) rfl λW I=>L W ⟨c,b++ [l],Hp.le_trans f F,?_,?_⟩
   ·rw [List.take_add_one,w];exact yd O (e.imp λ_ _ r=>Rw.mono F r)
   ·rw [show (b++d.drop i).set i l=(b++ [l])++d.drop (i+1) by
     rw [List.set_append_right _ _ (by omega),M,Nat.sub_self,List.drop_eq_getElem_cons u,List.set_cons_zero,List.append_assoc];rfl] at I
    exact I
 ·rintro g ⟨hb,b,f,e,o⟩;rw [List.drop_length,List.append_nil] at o;rw [T,List.take_length] at e;have D:=Hp.le_trans E f;exact R _ g (Hp.le_trans m (Hp.le_trans D o.le)) ⟨a.ae,⟨J,Rw.mono (Hp.le_trans D o.le) (o1.fJ (λ_=>rfl)),t⟩,a.lost,a.forbidden,Rw.mono (Hp.le_trans f o.le) (o2.fJ (λ_=>rfl)),b,o.fJ (λ_=>rfl),e.imp λ_ _ r=>Rw.mono o.le r⟩
theorem OS {x:aR} {p:ai} {Q:aR->Hp->Prop} (a:cN h x p) (U:p.af.length<=1000/\∀l∈p.af,l.values.length<=1000/\l.waiters.length<=1000)
  (V:∀r d,h<=d->cN d r p->Q r d):Xz prog x Q h:=by
 unfold Xz;obtain ⟨n1,n2⟩:=U;obtain ⟨e,T,B⟩:=a.af;have S:=B.len;refine zld ?_;unfold zfx;refine qN (enc:=λx=>be (bd.enc x)) (ah.aH 66 BE rfl) T (by decide) (λ_=>rfl) (λ_=>rfl) rfl ⟨by omega,by omega⟩ λZ k3 b0 H=> ?_;have a8:=(H.fJ (λ_=>rfl)).1;refine mX (n:=e.length) (by omega) (by omega) (λi s=>∃hb c,h<=hb/\cM (gO hb) c (p.af.take i)/\Has hb (eM 4 (λx=>be (bd.enc x)) Z (c++e.drop i)) s) ⟨h,[],Hp.le_refl _,trivial,by simpa using H⟩ ?_ ?_
 ·rintro i C s ⟨hb,c,j,f,o⟩ K M;have P:c.length=i:=by rw [f.len,List.length_take];omega
  have m:(c++e.drop i)[i]? =some e[i]:=by grind
  have t:i<(c++e.drop i).length:=(List.getElem?_eq_some_iff.1 m).1;obtain ⟨q,D,g⟩:=B.get (i:=i) (List.getElem?_eq_getElem C);have E:=n2 q (List.mem_of_getElem? D);generalize e[i]=b at m g;obtain ⟨A,X,F⟩:=g.waiters;have a9:A.length<=1000:=by rw [<-F,List.length_map] at E;exact E.2
  refine Rs.get (sh:=bd) (o.fJ (λ_=>rfl)) (λ_=>rfl) (by omega) (by omega) (by omega) λ(y:bw) G=> ?_;rw [show ((i:Int)).toNat=i from rfl,m] at G;cases G;refine tO (sh:=ak) (K0:=λl d=>hb<=d/\Is d l q.values) o (OX ?_) ?_
  ·unfold LL;exact qN (enc:=λx:Int=>be ((ab .i64).enc x)) (ah.aH 184 qF rfl) (Rw.mono (Hp.le_trans (Hp.le_refl _) j) g.values) (by decide) (λ_=>rfl) (λ_=>rfl) rfl ⟨by omega,by omega⟩ λl k u n=>⟨u,n.fJ (λ_=>rfl)⟩
  ·rintro (l:Sl) N k5 ⟨z,R⟩ o5;refine ⟨⟨trivial,trivial,trivial,trivial⟩,?_⟩;refine tO (sh:=ak) (K0:=λl d=>N<=d/\rW d l A) o5 (Od ?_) ?_
   ·unfold LH;exact qN (enc:=λx=>be (aC.enc x)) (ah.aH 185 pf rfl) (Rw.mono (Hp.le_trans j z) X) (by decide) (λ_=>rfl) (λ_=>rfl) rfl ⟨by omega,by omega⟩ λl k u n=>⟨u,n.fJ (λ_=>rfl)⟩
   ·rintro (w:Sl) O k6 ⟨ld,W⟩ I;refine ⟨⟨trivial,trivial,trivial⟩,I.rm (sh:=bd) (λ_=>rfl) (by decide) t,?_⟩;refine I.pH (i:=i) (x':=(⟨l,b.cQ,b.gD,b.ee⟩:bw)) (off:=0) (new:=[l.v]) (λ_=>rfl) m (by simp) rfl λk7 J=> ?_;refine ⟨⟨trivial,trivial⟩,J.rm (sh:=bd) (λ_=>rfl) (by decide) (by simpa using t),?_⟩;refine J.pH (i:=i) (x:=(⟨l,b.cQ,b.gD,b.ee⟩:bw)) (x':=(⟨l,w,b.gD,b.ee⟩:bw)) (off:=1) (new:=[w.v]) (λ_=>rfl) (List.getElem?_set_self t) (by simp) rfl λY L=>M Y ⟨O,c++ [⟨l,w,b.gD,b.ee⟩],Hp.le_trans j (Hp.le_trans z ld),?_,?_⟩
    ·rw [List.take_add_one,D];exact yd ⟨Rw.mono ld R,⟨A,W,F⟩,g.taken,g.dropped⟩ (f.imp λ_ _ r=>r.mono (Hp.le_trans z ld))
    ·rw [List.set_set,show (c++e.drop i).set i (⟨l,w,b.gD,b.ee⟩:bw)=(c++ [⟨l,w,b.gD,b.ee⟩])++e.drop (i+1) by
      rw [List.set_append_right _ _ (by omega),P,Nat.sub_self,List.drop_eq_getElem_cons C,List.set_cons_zero,List.append_assoc];rfl] at L
     exact L
 ·rintro s ⟨hb,c,j,f,o⟩;rw [List.drop_length,List.append_nil] at o;rw [S,List.take_length] at f;exact V _ s (Hp.le_trans j o.le) ⟨a.state,a.pc,a.br,a.ae,a.timer,a.bF,a.cn,c,o.fJ (λ_=>rfl),f.imp λ_ _ r=>r.mono o.le⟩
end
section
variable {h0 k:Hp} {r r1:Sl} {x:ay} {y:aL} {c:aV} {t:fz} {a:Int}
theorem L7 {b d:Type} {f:Nat->b->d} {l:List b} {i:Nat} {z:b} (h:l[i]? =some z):(l.take (i+1)).mapIdx f=(l.take i).mapIdx f++ [f i z]:=by rw [List.take_add_one,h,List.mapIdx_append,List.length_take,Nat.min_eq_left (by have:=(List.getElem?_eq_some_iff.1 h).1;omega)];simp
theorem Ul :fe k zX xB:=⟨rfl,⟨[],Rw.nil rfl,rfl⟩,rfl,rfl,Rw.nil rfl,[],Rw.nil rfl,trivial⟩
theorem Un :cN k zY xC:=⟨rfl,rfl,rfl,rfl,rfl,rfl,rfl,[],Rw.nil rfl,trivial⟩
theorem Kl {Q:aL->Hp->Prop} (kc:dN h0 x c) (ks:db h0 y t) (hu:∀l∈c.labels,iN l) (ha:iN a) (kf:lU t)
  (o:Has h0 ((eM 6 eX r (List.replicate t.parts.length zX)).star (eM 15 eY r1 (List.replicate t.procs.length zY))) k)
  (hq:∀y' m,h0<=m->db m y' (ln c t a)->Q y' m):aA (α1:=Int) (λb8 H Y=>
 (if (decide (H<((y.cq.len:Nat):Int)))=true then
 bU (λk=>
 ((bB y.cq.base y.cq.len H)/\aN none aY Y (sat y.cq.base 6 H) λx1=>
 aa prog Jy [x.v,(.int .i64 H),(.int .u64 a)] aQ (λr2 B=>
 (if r2=true then
 aa prog L8 [x1.v] aY (λd J=>
 ((True/\True)/\((bB r.base r.len H)/\cD J (sat r.base 6 H) [(.int .i64 d.Cursor),d.Log.v,(.int .i64 d.j8),(.int .i64 d.cS),d.dm.v,d.eN.v] (λZ=>
 k Z)))) B
 else
 k B)) Y))
 (λB=>
 b8 (yw (H+(1:Int))) B)
 else
 aA (α1:=Int) (λc0 I B=>
 (if (decide (I<((y.aO.len:Nat):Int)))=true then
 bU (λk=>
 ((bB y.aO.base y.aO.len I)/\aN none aE B (sat y.aO.base 15 I) λx1=>
 aa prog ET [x.v,(.int .i64 I),(.int .u64 a)] aQ (λr2 J=>
 (if r2=true then
 aa prog L9 [x1.v] aE (λd Z=>
 ((True/\True)/\((bB r1.base r1.len I)/\cD Z (sat r1.base 15 I) [(.int .i64 d.State),(.int .i64 d.PC),(.int .i64 d.bV),(.int .i64 d.bW),(.int .i64 d.bX),(.int .i64 d.bY),(.int .i64 d.bZ),(.int .i64 d.b9),(.int .i64 d.cc),(.int .i64 d.cd),(.int .i64 d.Cursor),(.int .i64 d.Timer),(.bool d.gA),(.int .i64 d.j9),d.gB.v] (λh7=>
 k h7)))) J
 else
 k J)) B))
 (λJ=>
 c0 (yw (I+(1:Int))) J)
 else
 Q ⟨y.fE,r,r1⟩ B)) (0:Int) Y)) (0:Int) k:=by
 obtain ⟨w,b5,b2⟩:=ks.parts;obtain ⟨A,b7,b3⟩:=ks.procs;have b4:=b2.len;have b6:=b3.len;have c1:y.cq.len=w.length:=b5.1;have c2:y.aO.len=A.length:=b7.1;have f1:=kf.parts;have f2:=kf.procs;generalize hg:(λ(i:Nat) (x:cY)=>if im c a (i:Int)=true then x else xB)=g;generalize a8:(λ(i:Nat) (x:ai)=>if fG c a (i:Int)=true then x else xC)=X;refine mX (n:=w.length) (by omega) (by omega) (λi m=>∃hb f,h0<=hb/\cM (fe hb) f ((t.parts.take i).mapIdx g)/\Has hb ((eM 6 eX r (f++List.replicate (w.length-i) zX)).star (eM 15 eY r1 (List.replicate t.procs.length zY))) m)
  ⟨h0,[],Hp.le_refl _,trivial,by rw [List.nil_append,Nat.sub_zero,b4];exact o⟩ ?_ ?_
 ·rintro i R m ⟨hb,f,D,L,o⟩ K O;have P:f.length=i:=by rw [L.len,List.length_mapIdx,List.length_take];omega
  have F:(f++List.replicate (w.length-i) zX)[i]? =some zX:=by rw [List.getElem?_append_right (by omega),P,Nat.sub_self,List.getElem?_replicate,if_pos (by omega)]
  have S:∀z:bx,(f++List.replicate (w.length-i) zX).set i z=(f++ [z])++List.replicate (w.length-(i+1)) zX:=λz=>by rw [List.set_append_right _ _ (by omega),P,Nat.sub_self,show w.length-i=(w.length-(i+1))+1 by omega,List.replicate_succ,List.set_cons_zero,List.append_assoc];rfl
  have b0:i<(f++List.replicate (w.length-i) zX).length:=(List.getElem?_eq_some_iff.1 F).1;obtain ⟨q,E,a9⟩:=b2.get (i:=i) (List.getElem?_eq_getElem R);refine bU.intro (λG=>K (yw ((i:Int)+1)) G) ?_ λ_ h=>h;refine Rs.get (sh:=aY) (Rw.mono (Hp.le_trans D o.le) b5) (λ_=>rfl) (by decide) (by omega) (by omega) λ(z:bx) u=> ?_;rw [show ((i:Int)).toNat=i from rfl,List.getElem?_eq_getElem R] at u;cases u;refine tO (sh:=aQ) (K0:=λb e=>im c a (i:Int)=b/\hb=e) o (GD (HV (kc.mono D) hu ha ⟨rfl,rfl⟩)) ?_;rintro b e G ⟨rfl,rfl⟩ U;by_cases s:im c a (i:Int)=true
  ·rw [if_pos s];refine tO (sh:=aY) (K0:=λz e=>hb<=e/\fe e z q) U (P1 (OR (a9.mono D) (kf.log q (List.mem_of_getElem? E)) λr e l p=>⟨l,p⟩)) ?_;rintro (z:bx) e k3 ⟨T,u⟩ V;refine ⟨⟨trivial,trivial⟩,(Has.left V).rm (sh:=aY) (λ_=>rfl) (by decide) b0,?_⟩;obtain ⟨h2,_,oO,_,put⟩:=V.fst;refine oO.pH (i:=i) (x':=z) (off:=0) (new:=be (aY.enc z)) (λ_=>rfl) F (by exact Nat.le_refl 6) (by exact (List.append_nil _).symm) λk4 W=>O k4 ⟨e,f++ [z],Hp.le_trans D T,?_,?_⟩
   ·rw [L7 E];refine yd ?_ (L.imp λ_ _ r=>r.mono T);rw [show g i q=q by rw [<-hg];exact if_pos s];exact u
   ·rw [S z] at W;exact put _ _ W
  ·rw [if_neg s];refine O G ⟨hb,f++ [zX],D,?_,?_⟩
   ·rw [L7 E];refine yd ?_ L;rw [show g i q=xB by rw [<-hg];exact if_neg s];exact Ul
   ·rw [<-S zX,ye F];exact U
 ·rintro m ⟨hb,f,D,L,o⟩;rw [Nat.sub_self,List.replicate_zero,List.append_nil] at o;rw [b4,List.take_length] at L;refine mX (n:=A.length) (by omega) (by omega) (λi m=>∃C j,hb<=C/\cM (cN C) j ((t.procs.take i).mapIdx X)/\Has C ((eM 6 eX r f).star (eM 15 eY r1 (j++List.replicate (A.length-i) zY))) m)
   ⟨hb,[],Hp.le_refl _,trivial,by rw [List.nil_append,Nat.sub_zero,b6];exact o⟩ ?_ ?_
  ·rintro i R m ⟨C,j,N,M,o⟩ K O;have P:j.length=i:=by rw [M.len,List.length_mapIdx,List.length_take];omega
   have F:(j++List.replicate (A.length-i) zY)[i]? =some zY:=by rw [List.getElem?_append_right (by omega),P,Nat.sub_self,List.getElem?_replicate,if_pos (by omega)]
   have S:∀z:aR,(j++List.replicate (A.length-i) zY).set i z=(j++ [z])++List.replicate (A.length-(i+1)) zY:=λz=>by rw [List.set_append_right _ _ (by omega),P,Nat.sub_self,show A.length-i=(A.length-(i+1))+1 by omega,List.replicate_succ,List.set_cons_zero,List.append_assoc];rfl
   have b0:i<(j++List.replicate (A.length-i) zY).length:=(List.getElem?_eq_some_iff.1 F).1;obtain ⟨q,E,a9⟩:=b3.get (i:=i) (List.getElem?_eq_getElem R);have b1:=Hp.le_trans D N;refine bU.intro (λG=>K (yw ((i:Int)+1)) G) ?_ λ_ h=>h;refine Rs.get (sh:=aE) (Rw.mono (Hp.le_trans b1 o.le) b7) (λ_=>rfl) (by decide) (by omega) (by omega) λ(z:aR) u=> ?_;rw [show ((i:Int)).toNat=i from rfl,List.getElem?_eq_getElem R] at u;cases u;refine tO (sh:=aQ) (K0:=λb e=>fG c a (i:Int)=b/\C=e) o (YW (CA (kc.mono b1) hu ha ⟨rfl,rfl⟩)) ?_;rintro b e G ⟨rfl,rfl⟩ U;by_cases s:fG c a (i:Int)=true
   ·rw [if_pos s];refine tO (sh:=aE) (K0:=λz e=>C<=e/\cN e z q) U (P3 (OS (a9.mono b1) (kf.af q (List.mem_of_getElem? E)) λr e l p=>⟨l,p⟩)) ?_;rintro (z:aR) e k3 ⟨T,u⟩ V;refine ⟨⟨trivial,trivial⟩,(Has.right V).rm (sh:=aE) (λ_=>rfl) (by decide) b0,?_⟩;obtain ⟨h2,_,oO,_,put⟩:=V.snd;refine oO.pH (i:=i) (x':=z) (off:=0) (new:=be (aE.enc z)) (λ_=>rfl) F (by exact Nat.le_refl 15) (by exact (List.append_nil _).symm) λk4 W=>O k4 ⟨e,j++ [z],Hp.le_trans N T,?_,?_⟩
    ·rw [L7 E];refine yd ?_ (M.imp λ_ _ r=>r.mono T);rw [show X i q=q by rw [<-a8];exact if_pos s];exact u
    ·rw [S z] at W;exact put _ _ W
   ·rw [if_neg s];refine O G ⟨C,j++ [zY],N,?_,?_⟩
    ·rw [L7 E];refine yd ?_ M;rw [show X i q=xC by rw [<-a8];exact if_neg s];exact Un
    ·rw [<-S zY,ye F];exact U
  ·rintro m ⟨C,j,N,M,o⟩;rw [Nat.sub_self,List.replicate_zero,List.append_nil] at o;rw [b6,List.take_length] at M;have hv:ln c t a=⟨t.tick,t.parts.mapIdx g,t.procs.mapIdx X⟩:=by rw [<-hg,<-a8];rfl
   refine hq _ m (Hp.le_trans D (Hp.le_trans N o.le)) ?_;rw [hv];exact ⟨ks.tick,⟨f,(Has.left o).fJ (λ_=>rfl),L.imp λ_ _ r=>r.mono (Hp.le_trans N o.le)⟩,j,(Has.right o).fJ (λ_=>rfl),M.imp λ_ _ r=>r.mono o.le⟩
theorem Lp {Q:aL->Hp->Prop} (n:dN h0 x c) (e:db h0 y t) (m:∀l∈c.labels,iN l) (i:iN a) (kf:lU t) (j:∀o f,h0<=f->db f o (ln c t a)->Q o f):DG prog x y a Q h0:=by
 unfold DG;obtain ⟨D,s,p⟩:=e.parts;obtain ⟨E,u,q⟩:=e.procs;have H:=p.len;have I:=q.len;have F:y.cq.len=D.length:=s.1;have G:y.aO.len=E.length:=u.1;have f1:=kf.parts;have f2:=kf.procs;have g:((y.cq.len:Int)).toNat=t.parts.length:=by omega
 have h:((y.aO.len:Int)).toNat=t.procs.length:=by omega
 refine ⟨?_,?_⟩
 ·refine qM (sz:=6) (z:=zX) (enc:=eX) rfl (λ_=>rfl) (by omega) (by omega) λl v A b=>⟨⟨trivial,trivial,trivial⟩,?_⟩;refine qM (sz:=15) (z:=zY) (enc:=eY) rfl (λ_=>rfl) (by omega) (by omega) λB w C d=>⟨⟨trivial,trivial⟩,?_⟩;rw [g] at b;rw [h] at d;exact Kl n e m i kf (b.beside d) j
 ·refine qM (sz:=15) (z:=zY) (enc:=eY) rfl (λ_=>rfl) (by omega) (by omega) λB v A b=>⟨⟨trivial,trivial,trivial⟩,?_⟩;refine qM (sz:=6) (z:=zX) (enc:=eX) rfl (λ_=>rfl) (by omega) (by omega) λl w C d=>⟨⟨trivial,trivial,trivial⟩,?_⟩;rw [g] at d;rw [h] at b;exact Kl n e m i kf (b.beside d).comm j
end
end Lf
namespace Lf
open Go Go.Proofs Go.ChangeShapes Go.WideShapes Go.ChangeAt Go.RowKit
section
variable {H:Type} {enc:TypeId×Value->H} {W:World}
abbrev gF :aw->List Value:=λx=>be (aZ.enc x)
theorem Zw :kG enc Tryz.prog W 32 λa=>∃x,a=gF x/\(qY x.Kind/\qY x.N/\qY x.V):=λf a y h c=>by have b:=ah.aH 32 wP rfl;have d:=yr b h;rw [show Tryz.prog.cellsOf 32=3 by kernel_rfl] at d;obtain ⟨a0,g,l⟩:=qR b h c (i:=0) (off:=0) rfl rfl jC li;obtain ⟨a1,j,n⟩:=qR b h c (i:=1) (off:=1) rfl rfl jC li;obtain ⟨a2,k,o⟩:=qR b h c (i:=2) (off:=2) rfl rfl Jb Fw;refine ⟨⟨a0,a1,a2⟩,?_,xz l,xz n,xz o⟩;have e:a=a.drop 0:=rfl;rw [e,qO (m:=1) g rfl,qO (m:=2) j rfl,qO (m:=3) k rfl,List.drop_of_length_le (Nat.le_of_eq d)];rfl
theorem s7 {v:Value} {d:DataW H} {j:List MemPlace} {base:Nat} (hv:Value.okWide Tryz.prog W .any base 27 v) (h:DataW.Trod enc Tryz.prog W 0 (λ_=>true) true 27 v d j) (i:(DataW.weights Tryz.prog 27 d).all (· <=reachBytes)=true):
  ∃(l:Sl) (e:List aw),v=l.v/\nI W 3 gF (λx=>qY x.Kind/\qY x.N/\qY x.V) l e:=by
 obtain ⟨a,n,c,rfl⟩:=okWide_slice (ah.aH 27 wO rfl) hv;obtain ⟨fuel,g⟩:=h;obtain ⟨l,e,b,f⟩:=Kx (enc:=enc) (W:=W) (ah.aH 27 wO rfl) gF (λx=>qY x.Kind/\qY x.N/\qY x.V) (sz:=3) (by kernel_rfl) (by rw [show Tryz.prog.bytesOf 32=24 by kernel_rfl];omega) Zw (λ_=>rfl) fuel _ _ g i;refine ⟨l,e,?_,f⟩;have b: [Value.slice a n c]=[l.v]:=b;exact List.cons.inj b |>.1
end
end Lf
namespace Lf
open Go Go.Proofs Tryz
section
variable {h:Hp}
theorem Km {P:Program} {t:Nat} {x y:Operand} {xs ys:Array Value} (L:List (Field×IntKind×Int×Int)) (c:P.underlying t=some (.struct (L.map (·.1)).toArray)) (f:P.eqGuardType P.depth t=false) (hp:P.stoodInHeld t=false)
  (e:∀q∈L,q.1.name≠ "_" ∧P.underlying q.1.type=some (.int q.2.1)∧xs[q.1.offset]? =some (.int q.2.1 q.2.2.1)∧ys[q.1.offset]? =some (.int q.2.1 q.2.2.2)):
  ic P (cE .neq t x y (.agg xs) (.agg ys)) h (.bool (!(L.all λq=>q.2.2.1==q.2.2.2))):=by
 refine Jk λw=> ?_;have b:P.fieldsOf t=(L.map (·.1)).toArray:=by unfold Program.fieldsOf;rw [c]
 have g:P.underlying t=some (.struct (P.fieldsOf t)):=by rw [b];exact c
 have a:=run_equalIn_struct (P:=P) w 9999 t xs ys g hp;rw [b] at a;have d:=MU (P:=P) 9998 xs ys L w e;unfold cE;simp only [Sem.run_bind,run_eqGuard_agg w .neq t x y xs ys f,Result.andThen_ok,run_neq_struct];rw [show (10000:Nat)=9999+1 from rfl,a];simp only [d,Result.andThen_ok]
def qy (x y:bu):Bool:=x.Op==y.Op&&(x.A==y.A&&(x.B==y.B&&(x.C==y.C&&x.iW==y.iW)))
theorem pa {x y:bu}:qy x y=true↔bL x=bL y:=by unfold qy bL;simp
theorem aaA {x y:bu} {p q:Operand}:ic prog (cE .neq 47 p q x.v y.v) h (.bool (!(qy x y))):=by
 have:=Km (h:=h) (P:=prog) (t:=47) (x:=p) (y:=q) (xs:= #[.int .i64 x.Op,.int .i64 x.A,.int .i64 x.B,.int .i64 x.C,.int .i64 x.iW]) (ys:= #[.int .i64 y.Op,.int .i64 y.A,.int .i64 y.B,.int .i64 y.C,.int .i64 y.iW])
  [(⟨ "Op",3,0,false, "", "",0⟩,.i64,x.Op,y.Op),(⟨ "A",3,1,false, "", "",8⟩,.i64,x.A,y.A),(⟨ "B",3,2,false, "", "",16⟩,.i64,x.B,y.B),(⟨ "C",3,3,false, "", "",24⟩,.i64,x.C,y.C),(⟨ "Imm",2,4,false, "", "",32⟩,.i64,x.iW,y.iW)]
  (ah.aH 47 wQ rfl) (by kernel_rfl) (by kernel_rfl) (λq a=>by
   simp only [List.mem_cons,List.not_mem_nil,or_false] at a;rcases a with rfl | rfl | rfl | rfl | rfl
   ·exact ⟨by simp,ah.aH 3 tl rfl,rfl,rfl⟩
   ·exact ⟨by simp,ah.aH 3 tl rfl,rfl,rfl⟩
   ·exact ⟨by simp,ah.aH 3 tl rfl,rfl,rfl⟩
   ·exact ⟨by simp,ah.aH 3 tl rfl,rfl,rfl⟩
   ·exact ⟨by simp,ah.aH 2 rD rfl,rfl,rfl⟩)
 have e:qy x y=[(⟨ "Op",3,0,false, "", "",0⟩,IntKind.i64,x.Op,y.Op),(⟨ "A",3,1,false, "", "",8⟩,.i64,x.A,y.A),(⟨ "B",3,2,false, "", "",16⟩,.i64,x.B,y.B),(⟨ "C",3,3,false, "", "",24⟩,.i64,x.C,y.C),((⟨ "Imm",2,4,false, "", "",32⟩:Field),.i64,x.iW,y.iW)].all (λq=>q.2.2.1==q.2.2.2):=by unfold qy;simp
 rw [e];exact this
end
abbrev iY (h:Hp) (l:Sl) (xs:List aw):Prop:=Rs h aZ 3 l xs
theorem Bb {len:Int} {n:Nat} (p:len=(n:Int)) (hb:n<=4611686018427387904) (I:Nat->Sl->Hp->Prop) {B:(Sl->Int->Hp->Prop)->Sl->Int->Hp->Prop} {X:Sl->Int->Hp->Prop} {e:Sl} {c:Hp} (g:I 0 e c)
  (l:∀i:Nat,i<n->∀s h,I i s h->∀K:Sl->Int->Hp->Prop,(∀b a,I (i+1) b a->K b (yw ((i:Int)+1)) a)->B K s (i:Int) h) (m:∀s h,I n s h->X s (n:Int) h):
  dC (λf s t h=>if decide (t<len)=true then B f s t h else X s t h) e (0:Int) c:=by
 refine dC.intro (λs t h=>∃i:Nat,t=(i:Int)/\i<=n/\I i s h) (λ_ t _=>(len-t).toNat) ⟨0,rfl,by omega,g⟩ ?_;rintro s t h ⟨i,rfl,o,d⟩;by_cases k:i<n
 ·rw [if_pos (decide_eq_true (by omega))];refine l i k s h d _ λb a j=> ?_;rw [wrap64 (by omega) (by omega)];exact ⟨⟨i+1,by omega,by omega,j⟩,by omega⟩
 ·have:i=n:=by omega
  subst this;rw [if_neg (by simp;omega)];exact m s h d
section
variable {h:Hp} {Q:Bool->Hp->Prop}
theorem vf {sh:Shape} {sz:Nat} {s1 s2:Sl} {a b:List sh.T} {v:Type} (f:sh.T->v) {B:(Int->Hp->Prop)->Int->Hp->sh.T->sh.T->Prop} (u:Rs h sh sz s1 a) (r2:Rs h sh sz s2 b) (r:∀x,(be (sh.enc x)).length=sz) (s:0<sz)
  (F:a.length<=140737488355328) (hb:∀(i:Nat) x y,a[i]? =some x->b[i]? =some y->∀K:Int->Hp->Prop,(f x=f y->K (yw ((i:Int)+1)) h)->(f x≠f y->Q false h)->B K (i:Int) h x y)
  (c:a.map f=b.map f->Q true h) (q:a.map f≠b.map f->Q false h):
  (if (((s1.len:Nat):Int) !=((s2.len:Nat):Int))=true then Q false h else
   aA (α1:=Int) (λw t c=>(if (decide (t<((s1.len:Nat):Int)))=true then
    ((bB s1.base s1.len t)/\aN none sh c (sat s1.base sz t) λx=>((bB s2.base s2.len t)/\aN none sh c (sat s2.base sz t) λD=>B w t c x D))
    else Q true c)) (0:Int) h):=by
 have o:s1.len=a.length:=u.1;have p:s2.len=b.length:=r2.1;by_cases g:a.length=b.length
 ·rw [if_neg (by rw [o,p,g];simp)];refine mX (n:=a.length) (by omega) (by omega) (λi A=>A=h/\(a.take i).map f=(b.take i).map f) ⟨rfl,rfl⟩ ?_ ?_
  ·rintro i E k ⟨rfl,d⟩ K C;refine Rs.get (sh:=sh) u r s (i:=(i:Int)) (by omega) (by omega) λx j=> ?_;refine Rs.get (sh:=sh) r2 r s (i:=(i:Int)) (by omega) (by omega) λy m=> ?_;rw [Int.toNat_natCast] at j m;refine hb i x y j m _ (λe=>C k ⟨rfl,?_⟩) λe=>q λz=>e ?_
   ·rw [List.take_add_one,List.take_add_one,j,m,List.map_append,List.map_append,d];show _++ [f x]=_++ [f y];rw [e]
   ·have:=congrArg (λl:List v=>l[i]?) z;simp only [List.getElem?_map,j,m] at this;exact Option.some.inj this
  ·rintro k ⟨rfl,d⟩;rw [List.take_length,g,List.take_length] at d;exact c d
 ·rw [if_pos (by rw [o,p];simpa using λe=>g (by omega))];exact q λe=>g (by have:=congrArg List.length e;simpa using this)
theorem WX {sh:Shape} {s1 s2:Sl} {a b:List Int} (k:Is h s1 a) (r2:Is h s2 b) (j:a.length<=140737488355328) (d:a=b->Q true h) (c:a≠b->Q false h):QV prog s1 s2 Q h:=by
 unfold QV;refine vf (sh:=ab .i64) (λx:Int=>x) k r2 (λ_=>rfl) (by decide) j (λi (x:Int) (y:Int) _ _ K f g=> ?_) (by simpa using d) (by simpa using c);by_cases e:x=y
 ·rw [if_neg (by simpa using e)];exact f e
 ·rw [if_pos (by simpa using e)];exact g e
theorem WY {s1 s2:Sl} {a b:List Int} (k:Us h s1 a) (r2:Us h s2 b) (j:a.length<=140737488355328) (d:a=b->Q true h) (c:a≠b->Q false h):O5 prog s1 s2 Q h:=by
 unfold O5;refine vf (sh:=ab .u64) (λx:Int=>x) k r2 (λ_=>rfl) (by decide) j (λi (x:Int) (y:Int) _ _ K f g=> ?_) (by simpa using d) (by simpa using c);by_cases e:x=y
 ·rw [if_neg (by simpa using e)];exact f e
 ·rw [if_pos (by simpa using e)];exact g e
structure kH (a b:aV):Prop where
 labels:a.labels=b.labels
 table:a.table=b.table
 fuel:a.fuel=b.fuel
 lane:a.lane=b.lane
 an:a.an=b.an
 log:a.log=b.log
 procs:a.procs.map (·.part)=b.procs.map (·.part)
theorem HZ {c:List ba} {a:List iX} (b:cM (jo h) c a):c.map (·.Part)=a.map (·.part):=by
 induction c generalizing a with
 | nil=>cases a with
  | nil=>rfl
  | cons _ _=>exact b.elim
 | cons x c d=>cases a with
  | nil=>exact b.elim
  | cons y a=>rw [List.map_cons,List.map_cons,b.1.1,d b.2]
theorem W1 {x y:ay} {a b:aV} (c:dN h x a) (d:dN h y b) (M:a.labels.length<=1000/\a.table.length<=1000/\a.procs.length<=1000) (o:kH a b->Q true h) (j:¬kH a b->Q false h):Xp prog x y Q h:=by
 unfold Xp;obtain ⟨O,B,n⟩:=c.procs;obtain ⟨P,C,u⟩:=d.procs;have m:=HZ n;have f:=HZ u;have N:=n.len;have rest:∀r,a.labels=b.labels->(r=decide (a.table=b.table))->aF (true&&r) λL=>
   aF (L&&(x.Fuel==y.Fuel)) λH=>aF (H&&(x.iO==y.iO)) λI=>aF (I&&(x.cf==y.cf)) λJ=>aF (J&&(x.Log==y.Log)) λg=>
   cG (some g) (aa prog Nv [x.aO.v,y.aO.v,(.func (.func 69) #[] #[])] aQ) (λr2 p=>aF (g&&r2) λl=>Q l p) h:=by
  intro r A D;refine aK (aK (aK (aK (aK ?_))));rw [c.fuel,d.fuel,c.lane,d.lane,c.an,d.an,c.log,d.log,D];generalize k:((((true&&decide (a.table=b.table))&&(a.fuel==b.fuel))&&(a.lane==b.lane))&&(a.an==b.an)&&(a.log==b.log))=g;cases g with
  | false=>exact tF rfl false (aK (j λs=>by simp [s.table,s.fuel,s.lane,s.an,s.log] at k))
  | true=>
   simp only [Bool.true_and,Bool.and_eq_true,decide_eq_true_eq,beq_iff_eq] at k;obtain ⟨⟨⟨⟨t1,t2⟩,E⟩,F⟩,G⟩:=k;refine pR rfl (zeb (eq:=⟨69, #[], #[]⟩) ?_);unfold zbx;refine vf (sh:=bA) (Q:=λb h=>aF (true&&b) λl=>Q l h) (λx:ba=>x.Part) B C (λ_=>rfl) (by decide) (by omega) (λi (z:ba) (w:ba) _ _ K q t=> ?_) (λe=>aK (o ⟨A,t1,t2,E,F,G,by rw [<-m,<-f];exact e⟩)) λe=>aK (j λs=>e (by rw [m,f];exact s.procs));refine tP rfl (Oq (x:=z) (y:=w) ?_);unfold zuw;dsimp only;by_cases e:z.Part=w.Part
   ·rw [if_neg (by simpa using e)];exact q e
   ·rw [if_pos (by simpa using e)];exact t e
 refine zop (WY c.labels d.labels (by omega) (λe=> ?_) λe=> ?_)
 ·refine pR rfl (ztx (WX (sh:=aQ) c.table d.table (by omega) (λf=> ?_) λf=> ?_))
  ·exact rest true e (by simp [f])
  ·exact rest false e (by simp [f])
 ·refine tF rfl false (aK (aK (aK (aK (aK (tF (by simp) false (aK ?_)))))));simpa using j λs=>e s.labels
def uw (x y:aw):Bool:=x.Kind==y.Kind&&(x.N==y.N&&x.V==y.V)
theorem mV {x y:aw}:uw x y=true↔x=y:=by cases x;cases y;unfold uw;simp
theorem If {x y:aw} {p q:Operand}:ic prog (cE .neq 32 p q x.v y.v) h (.bool (!(uw x y))):=by
 have:=Km (h:=h) (P:=prog) (t:=32) (x:=p) (y:=q) (xs:= #[.int .i64 x.Kind,.int .i64 x.N,.int .i64 x.V]) (ys:= #[.int .i64 y.Kind,.int .i64 y.N,.int .i64 y.V])
  [(⟨ "Kind",3,0,false, "", "",0⟩,.i64,x.Kind,y.Kind),(⟨ "N",3,1,false, "", "",8⟩,.i64,x.N,y.N),(⟨ "V",2,2,false, "", "",16⟩,.i64,x.V,y.V)]
  (ah.aH 32 wP rfl) (by kernel_rfl) (by kernel_rfl) (λq a=>by
   simp only [List.mem_cons,List.not_mem_nil,or_false] at a;rcases a with rfl | rfl | rfl
   ·exact ⟨by simp,ah.aH 3 tl rfl,rfl,rfl⟩
   ·exact ⟨by simp,ah.aH 3 tl rfl,rfl,rfl⟩
   ·exact ⟨by simp,ah.aH 2 rD rfl,rfl,rfl⟩)
 have e:uw x y=[(⟨ "Kind",3,0,false, "", "",0⟩,IntKind.i64,x.Kind,y.Kind),(⟨ "N",3,1,false, "", "",8⟩,.i64,x.N,y.N),((⟨ "V",2,2,false, "", "",16⟩:Field),.i64,x.V,y.V)].all (λq=>q.2.2.1==q.2.2.2):=by unfold uw;simp
 rw [e];exact this
theorem aaB {a b:Sl} {c d:List aw} (n:iY h a c) (r2:iY h b d) (m:c.length<=140737488355328) (g:c=d->Q true h) (f:c≠d->Q false h):BL prog a b Q h:=by
 unfold BL;refine vf (sh:=aZ) (λx:aw=>x) n r2 (λ_=>rfl) (by decide) m (λi (x:aw) (y:aw) _ _ K j k=>⟨_,If,?_⟩) (by simpa using g) (by simpa using f);by_cases e:x=y
 ·rw [mV.2 e];exact j e
 ·rw [Bool.eq_false_iff.2 λl=>e (mV.1 l)];exact k e
theorem WV {a b:Sl} {c d:List bu} (n:mj h a c) (r2:mj h b d) (m:c.length<=140737488355328) (g:c.map bL=d.map bL->Q true h) (f:c.map bL≠d.map bL->Q false h):Xr prog a b Q h:=by
 unfold Xr;refine vf (sh:=bJ) bL n r2 (λ_=>rfl) (by decide) m (λi (x:bu) (y:bu) _ _ K j k=>⟨_,aaA,?_⟩) g f;by_cases e:bL x=bL y
 ·rw [pa.2 e];exact j e
 ·rw [Bool.eq_false_iff.2 λl=>e (pa.1 l)];exact k e
end
def cp (c:aV) (a:Int) (x:aw):Bool:= !(x.Kind==2 || x.Kind==3) || fG c a x.N
section
variable {h:Hp} {x:ay} {c:aV} {a:Int} {l:Sl} {xs:List aw} {Q:Sl->Hp->Prop}
theorem zya {b:Type} {p:b->Bool} {l:List b} {i:Nat} {z:b} (h:l[i]? =some z):(l.take (i+1)).filter p=(l.take i).filter p++if p z=true then [z] else []:=by rw [List.take_add_one,h,List.filter_append];congr 1;simp [List.filter_cons]
theorem Db {p:aw->Bool} {i:Nat} (d:xs.length<=1048576):((xs.take i).filter p).length<=1048576:=by have b:=List.length_filter_le p (xs.take i);rw [List.length_take] at b;omega
theorem Jl (D:dN h x c) (C:∀l∈c.labels,iN l) (y:iN a) (m:iY h l xs) (A:xs.length<=1048576) (B:∀r b,Has h (dD 3 gF r (xs.filter (cp c a))) b->Q r b):BG prog x l a Q h:=by
 unfold BG;have J:l.len=xs.length:=m.1;refine Bb (n:=xs.length) (by omega) (by omega) (λi s b=>Has h (dD 3 gF s ((xs.take i).filter (cp c a))) b) (Has.jW (Hp.le_refl _)) ?_ ?_
 ·intro i I s k o K j;refine eZ.direct ?_;refine Rs.get (sh:=aZ) (Rw.mono o.le m) (λ_=>rfl) (by decide) (by omega) (by omega) λ(z:aw) t=> ?_;rw [Int.toNat_natCast] at t;have f:=zya (p:=cp c a) t;refine aK ?_;have d:(if cp c a z=true then bD [(.int .i64 z.Kind),(.int .i64 z.N),(.int .i64 z.V)] (λa1 v=>fR 3 24 [(.int .i64 (0:Int)),(.int .i64 (0:Int)),(.int .i64 (0:Int))] ⟨s.base,s.len,s.cap⟩ ⟨(some a1),1,1⟩ (λG w=>K G (yw ((i:Int)+1)) w) v) k else K ⟨s.base,s.len,s.cap⟩ (yw ((i:Int)+1)) k):=by
   by_cases g:cp c a z=true
   ·rw [if_pos g] at f;rw [if_pos g];have H:=Db (p:=cp c a) (i:=i) A;refine o.push (e:=z) rfl (λ_=>rfl) (λ_=>rfl) rfl ⟨by omega,by omega⟩ λE b F=>j E b ?_;rw [f];exact F
   ·rw [if_neg g,List.append_nil] at f;rw [if_neg g];refine j s k ?_;rw [f];exact o
  have u:cp c a z=(!(z.Kind==2 || z.Kind==3) || fG c a z.N):=rfl;rw [u] at d;cases q:(z.Kind==2 || z.Kind==3) with
  | true=>rw [q] at d;refine pR rfl (YW (CA (D.mono o.le) C y (aK ?_)));exact d
  | false=>rw [q] at d;exact tF rfl false (aK d)
 ·intro s k o;rw [List.take_length] at o;exact B s k o
theorem YM {i:Int} {Q:Bool->Hp->Prop} (j:dN h x c) (g:∀l∈c.labels,iN l) (f:iN a) (b:Q (im c a i) h):RI prog x i a Q h:=by unfold RI;exact HU (λd e b=>zub (OJ d e b)) j g f b
theorem RO {p:Int} {Q:Bool->Hp->Prop} (d:dN h x c) (f:∀l∈c.labels,iN l) (e:iN a) (b:Q (fG c a p) h):RF prog x p a Q h:=by unfold RF;exact HX (λb=>zvg (YM d f e b)) d b
theorem OT (B:dN h x c) (A:∀l∈c.labels,iN l) (v:iN a) (q:iY h l xs) (w:xs.length<=1048576) (y:∀r d,Has h (dD 3 gF r (xs.filter (cp c a))) d->Q r d):QO prog x l a Q h:=by
 unfold QO;have H:l.len=xs.length:=q.1;refine gI (xs:=([]:List aw)) (sz:=3) (enc:=gF) rfl (λ_=>rfl) λb I J E=> ?_;refine Bb (n:=xs.length) (by omega) (by omega) (λi s d=>Has h (dD 3 gF s ((xs.take i).filter (cp c a))) d) E ?_ ?_
 ·intro i G s k o K m;refine eZ.direct ?_;have t:=Rw.mono o.le q;refine Rs.get (sh:=aZ) t (λ_=>rfl) (by decide) (by omega) (by omega) λ(z:aw) j=> ?_;rw [Int.toNat_natCast] at j;have f:=zya (p:=cp c a) j;refine zso ?_;unfold zmn;refine zvf (RO (B.mono o.le) A v (aK (aK ?_)));have e:(!((z.Kind==2 || z.Kind==3)&& !(fG c a z.N)))=cp c a z:=by unfold cp;simp
  dsimp only;rw [e];by_cases g:cp c a z=true
  ·rw [if_pos g] at f;rw [if_pos g];have F:=Db (p:=cp c a) (i:=i) w;refine Rs.get (sh:=aZ) t (λ_=>rfl) (by decide) (by omega) (by omega) λ(L:aw) u=> ?_;rw [Int.toNat_natCast,j] at u;cases u;refine o.push (e:=z) rfl (λ_=>rfl) (λ_=>rfl) rfl ⟨by omega,by omega⟩ λC d D=>m C d ?_;rw [f];exact D
  ·rw [if_neg g,List.append_nil] at f;rw [if_neg g];refine m s k ?_;rw [f];exact o
 ·intro s k o;rw [List.take_length] at o;exact y s k o
end
end Lf
