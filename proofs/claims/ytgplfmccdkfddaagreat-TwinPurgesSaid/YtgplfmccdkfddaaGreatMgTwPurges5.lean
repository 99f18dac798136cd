/-
  Part 6 of the texts that the claim leans on.
-/
import Derived.Test.YtgplfmccdkfddaaGreatMgTwPurges4
set_option maxRecDepth 100000
namespace Lf
open Go Go.Proofs Tryz
def Bx (t:cO):ay:=⟨t.dA,t.eK,t.hU,t.hZ,t.fO,t.jO,t.di⟩
def EF (t:cO):ay:=⟨t.dR,t.fa,t.iL,t.iM,t.gv,t.km,t.dS⟩
structure pZ (h:Hp) (t:cO) (A B:aV) (S T:List aw):Prop where
 a:dN h (Bx t) A
 b:dN h (EF t) B
 s:iY h t.S S
 r:iY h t.T T
 ua:∀l∈A.labels,iN l
 ub:∀l∈B.labels,iN l
 u:iN t.Label
structure fW (A B:aV) (S T:List aw) (a:Int):Prop where
 s:S.length<=1024
 r:T.length<=1024
 ea:(iZ A).1=0
 eb:(iZ B).1=0
 gm:kH A B
 code:∀p:Nat,p<nQ A->fG A a (p:Int)=true->gz A p=gz B p
 same:S.filter (cp A a)=T.filter (cp B a)
section
variable {h:Hp} {t:cO} {A B:aV} {S T:List aw} {Q:Bool->Hp->Prop}
theorem pZ.mono {c:Hp} (k:pZ h t A B S T) (l:h<=c):pZ c t A B S T:=⟨k.a.mono l,k.b.mono l,Rw.mono l k.s,Rw.mono l k.r,k.ua,k.ub,k.u⟩
theorem H0 {x:ay} {c:aV} (d:dN h x c) (b:∀a,h<=a->Q ((iZ c).1==0) a):BK prog x Q h:=by unfold BK;exact H6 (Kf d λa l=>b a l)
theorem Lq {c:aV} {b:List ba} (f:cM (jo h) b c.procs) {i:Nat} {x:ba} (j:b[i]? =some x):∃a,mj h x.Code a/\a.map bL=gz c i:=by obtain ⟨q,g,hp⟩:=f.get j;obtain ⟨a,d,e⟩:=hp.2;refine ⟨a,d,?_⟩;unfold gz;rw [g,e];rfl
theorem Kn (k:pZ h t A B S T) (h1:∀g,h<=g->fW A B S T t.Label->Q true g) (f:∀g,h<=g->¬fW A B S T t.Label->Q false g):CK prog t Q h:=by
 unfold CK;have hs:t.S.len=S.length:=k.s.1;have ht:t.T.len=T.length:=k.r.1;refine aK ?_;by_cases F:S.length<=1024/\T.length<=1024
 ·rw [show (decide (((t.S.len:Nat):Int)>(1024:Int)) || decide (((t.T.len:Nat):Int)>(1024:Int)))=false by simp;omega];refine pR rfl (Gv (c:=Bx t) (H0 k.a λk1 J=>aK ?_));by_cases l:(iZ A).1=0
  ·rw [show ((iZ A).1==0)=true by simpa using l];refine pR rfl (Gv (c:=EF t) (H0 (k.b.mono J) λk2 l2=>aK ?_));have d:=Hp.le_trans J l2;by_cases hb:(iZ B).1=0
   ·rw [show ((iZ B).1==0)=true by simpa using hb];have z:=nB l;have m1:=z.parts;have m2:=z.table;have m3:=z.procs;unfold nP at m1;unfold nQ at m3;refine pR rfl (PS (a:=Bx t) (b:=EF t) (W1 (k.a.mono d) (k.b.mono d) ⟨by omega,by omega,by omega⟩ (λC=>aK ?_) λC=>aK ?_))
    ·rw [if_neg (by simp)];obtain ⟨M,R,O⟩:=(k.a.mono d).procs;obtain ⟨qs,U,P⟩:=(k.b.mono d).procs;have b0:M.length=A.procs.length:=O.len;have eql:qs.length=B.procs.length:=P.len;have a9:A.procs.length=B.procs.length:=by have:=congrArg List.length C.procs;simpa using this
     have b2:t.di.len=M.length:=R.1;refine mX (n:=M.length) (by omega) (by omega) (λi H=>H=k2/\∀p:Nat,p<i->fG A t.Label (p:Int)=true->gz A p=gz B p) ⟨rfl,λp hp=>by omega⟩ ?_ ?_
     ·rintro i hi H ⟨rfl,o⟩ K N;refine Rs.get (sh:=bA) R (λ_=>rfl) (by decide) (by omega) (by omega) λ(x:ba) V=> ?_;rw [Int.toNat_natCast] at V;refine YW (c:=Bx t) (CA (k.a.mono d) k.ua k.u ?_);by_cases w:fG A t.Label (i:Int)=true
      ·rw [w];obtain ⟨e1,y,W,a8⟩:=Rw.read U (λ_=>rfl) (by decide) (i:=(i:Int)) (by omega) (by rw [U.1];omega);rw [Int.toNat_natCast] at W;refine ⟨λ_=>e1,y.Code,λ_=>λj v D=> ?_,?_⟩
       ·match j,D with
        | 0,D=>exact a8 1 v D
       ·obtain ⟨is,i1,G⟩:=Lq O V;obtain ⟨js,j1,X⟩:=Lq P W;have b1:is.length<=256:=by have:=z.mT (p:=i);rw [<-G,List.length_map] at this;exact this
        refine pR rfl (PU (a:=x.Code) (b:=y.Code) (WV i1 j1 (by omega) (λe=>aK ?_) λe=>aK ?_))
        ·refine N _ ⟨rfl,λp hp q=> ?_⟩;by_cases E:p=i
         ·subst E;rw [<-G,<-X];exact e
         ·exact o p (by omega) q
        ·exact f _ d λm=>e (by rw [G,X];exact m.code i (by unfold nQ;omega) w)
      ·rw [Bool.eq_false_iff.2 w];refine ⟨λe=>(by cases e),(⟨none,0,0⟩:Sl),λe=>(by cases e),tF rfl false (aK ?_)⟩;refine N _ ⟨rfl,λp hp q=> ?_⟩;by_cases E:p=i
       ·subst E;exact absurd q w
       ·exact o p (by omega) q
     ·rintro H ⟨rfl,o⟩;refine Ih (c:=Bx t) (Jl (k.a.mono d) k.ua k.u (Rw.mono d k.s) (by omega) λr3 k3 Z=>⟨⟨trivial,trivial,trivial,trivial⟩,?_⟩);have I:=Hp.le_trans d Z.le;refine Ih (c:=EF t) (Jl (k.b.mono I) k.ub k.u (Rw.mono I k.r) (by omega) λr4 k4 L=> ?_);have Y:=Hp.le_trans I L.le;have f1:=Db (xs:=S) (p:=cp A t.Label) (i:=S.length) (by omega);rw [List.take_length] at f1;refine Wo (a:=r3) (b:=r4) (aaB (Rw.mono L.le (Z.iq (λ_=>rfl))) (L.iq (λ_=>rfl)) (by omega) (λe=> ?_) λe=> ?_)
      ·exact h1 _ Y ⟨F.1,F.2,l,hb,C,λp hp=>o p (by unfold nQ at hp;omega),e⟩
      ·exact f _ Y λm=>e m.same
    ·exact f _ d λm=>C m.gm
   ·rw [show ((iZ B).1==0)=false by simpa using hb];exact tF rfl false (aK (f _ d λm=>hb m.eb))
  ·rw [show ((iZ A).1==0)=false by simpa using l];exact tF rfl false (aK (tF rfl false (aK (f _ J λm=>l m.ea))))
 ·rw [show (decide (((t.S.len:Nat):Int)>(1024:Int)) || decide (((t.T.len:Nat):Int)>(1024:Int)))=true by simp;omega];exact tF rfl false (aK (tF rfl false (aK (tF rfl false (aK (f _ (Hp.le_refl _) λm=>F ⟨m.s,m.r⟩))))))
end
def gK (c:aV) (a:Int):Nat->Bool:=λi=>im c a (i:Int)
theorem Jp {a b c:Int} (e:iE a b=true) (f:iE b c=true):iE a c=true:=gZ.2 λn d h=>gZ.1 f n d (gZ.1 e n d h)
section
variable {A B:aV} {a:Int} {S T:List aw} {t t':fz}
theorem EZ (m:cg A) {p:Int} (d:0<=p) (b:p<(nQ A:Int)):fG A a p=gK A a (ax A p.toNat):=by
 unfold fG gK ax;rw [decide_eq_true d,decide_eq_true b];have c:p.toNat<A.procs.length:=by unfold nQ at b;omega
 rw [List.getElem?_eq_getElem c];have:=(m.part _ (List.getElem_mem c)).1;show (true&&true&&im A a A.procs[p.toNat].part)=im A a ((A.procs[p.toNat].part.toNat:Nat):Int);rw [show ((A.procs[p.toNat].part.toNat:Nat):Int)=A.procs[p.toNat].part by omega];rfl
theorem kH.len (s:kH A B):A.procs.length=B.procs.length:=by have:=congrArg List.length s.procs;simpa using this
theorem kH.part (s:kH A B) (p:Nat):(A.procs[p]?).map (·.part)=(B.procs[p]?).map (·.part):=by have:=congrArg (λl:List Int=>l[p]?) s.procs;simpa using this
theorem kH.im (s:kH A B):im B a=im A a:=by funext i;unfold Lf.im nP;rw [s.labels]
theorem kH.fG (s:kH A B):fG B a=fG A a:=by funext p;unfold Lf.fG nQ;rw [s.len,s.part,s.im]
theorem kH.cF (s:kH A B):cp B a=cp A a:=by funext x;unfold cp;rw [s.fG]
theorem kH.gY (s:kH A B):gY B=gY A:=by funext i j;unfold Lf.gY;rw [s.labels]
theorem fW.nT (m:fW A B S T a):Twin (gK A a) (gY A) A B where
 nP:=by unfold nP;rw [m.gm.labels]
 nQ:=by unfold nQ;rw [m.gm.len]
 vT:=by
  funext p;unfold ax;have:=m.gm.part p;cases d:A.procs[p]? with
  | none=>
   rw [d] at this;cases b:B.procs[p]? with
   | none=>rfl
   | some y=>rw [b] at this;cases this
  | some x=>
   rw [d] at this;cases b:B.procs[p]? with
   | none=>rw [b] at this;cases this
   | some y=>rw [b] at this;simp at this;simp [this]
 code:=λp hp=>by
  by_cases h:p<nQ A
  ·refine m.code p h ?_;rw [EZ (nB m.ea) (by omega) (by omega)];exact hp
  ·have e:=m.gm.len;unfold gz;rw [List.getElem?_eq_none (by unfold nQ at h;omega),List.getElem?_eq_none (by unfold nQ at h;omega)]
 table:=m.gm.table.symm
 fuel:=m.gm.fuel.symm
 lane:=m.gm.lane.symm
 an:=m.gm.an.symm
 log:=m.gm.log.symm
 up:=λi j h c=>by
  unfold gK Lf.im at c ⊢;unfold Lf.gY fl at h;split at h
  ·rename_i f;simp only [Bool.and_eq_true,decide_eq_true_eq] at c ⊢;unfold nP;exact ⟨⟨f.1,f.2.1⟩,Jp h c.2⟩
  ·cases h
structure kO (A B:aV) (a:Int) (t t':fz):Prop where
 uI:cl A (gK A a) (bh t) (bh t')
 ga:GT A t
 gb:GT B t'
theorem vv (c:Twin (gK A a) (gY A) A B) {s b:MS} (o:cl A (gK A a) s b):cl A (gK A a) (bh (s.list A)) (bh (b.list B)):=by
 refine ⟨o.tick,λi d=> ?_,λp hp=> ?_⟩
 ·show ((List.range (nP A)).map s.part).getD i kz=((List.range (nP B)).map b.part).getD i kz;rw [c.nP,List.getD_eq_getElem?_getD,List.getD_eq_getElem?_getD,List.getElem?_map,List.getElem?_map];cases h:(List.range (nP A))[i]? with
  | none=>rfl
  | some j=>
   have:j=i:=by have:=(List.getElem?_eq_some_iff.1 h).2;simpa using this.symm
   subst this;show s.part j=b.part j;exact o.part j d
 ·show ((List.range (nQ A)).map s.proc).getD p nk=((List.range (nQ B)).map b.proc).getD p nk;rw [c.nQ,List.getD_eq_getElem?_getD,List.getD_eq_getElem?_getD,List.getElem?_map,List.getElem?_map];cases h:(List.range (nQ A))[p]? with
  | none=>rfl
  | some j=>
   have:j=p:=by have:=(List.getElem?_eq_some_iff.1 h).2;simpa using this.symm
   subst this;show s.proc j=b.proc j;exact o.proc j hp
theorem Lr {s d:MS} (o:cl A (gK A a) s d):cl A (gK A a) (bh (s.list A)) (bh (d.list A)):=
 vv ⟨rfl,rfl,rfl,λ_ _=>rfl,rfl,rfl,rfl,rfl,rfl,λi j h b=>by
  unfold gK Lf.im at b ⊢;unfold Lf.gY fl at h;split at h
  ·rename_i c;simp only [Bool.and_eq_true,decide_eq_true_eq] at b ⊢;unfold nP;exact ⟨⟨c.1,c.2.1⟩,Jp h b.2⟩
  ·cases h⟩ o
theorem kO.jz (s:kO A B a t t'):t.tick=t'.tick:=s.uI.tick
theorem kO.tick (m:fW A B S T a) (s:kO A B a t t') (b:t.tick<4611686018427387904):kO A B a (j3 A t) (j3 B t')/\iv A t.tick=iv B t'.tick/\(j3 A t).tick=t.tick+1:=by
 have c:=nB m.ea;have d:=nB m.eb;have f:Good B (gY A) (bh t') No No t'.tick:=by rw [<-m.gm.gY];exact s.gb.gS
 obtain ⟨g,h⟩:=s.uI.uV (D:=fF) m.nT c d s.ga.gS f;obtain ⟨i,e⟩:=s.ga.tick c b;refine ⟨⟨?_,i,(s.gb.tick d (by rw [<-s.jz];exact b)).1⟩,h,e⟩;have:=vv m.nT g;show cl A (gK A a) (bh ((iJ A fF (gY A) (bh t)).list A)) (bh ((iJ B fF (gY B) (bh t')).list B));rw [m.gm.gY];exact this
section
variable (m:fW A B S T a) (s:kO A B a t t') (b:t.tick<=4611686018427387904) {p v:Int}
include m s b
theorem kO.inj (hp:fG A a p=true):kO A B a (qi A t p v) (qi B t' p v):=by have c:=nB m.ea;have f:=nB m.eb;exact ⟨vv m.nT (s.uI.inj m.nT λd e=>by rw [<-EZ c d e];exact hp),(s.ga.inj c b).1,(s.gb.inj f (by rw [<-s.jz];exact b)).1⟩
theorem kO.kill (hp:fG A a p=true):kO A B a (lY A t p) (lY B t' p):=by have c:=nB m.ea;have f:=nB m.eb;exact ⟨vv m.nT (s.uI.kill m.nT λd e=>by rw [<-EZ c d e];exact hp),(s.ga.kill c b).1,(s.gb.kill f (by rw [<-s.jz];exact b)).1⟩
theorem kO.yJ (hp:fG A a p=false):kO A B a (qi A t p v) t':=by
 have c:=nB m.ea;have o:=cl.MZ (V:=gK A a) (A:=A) (s:=bh t) (p:=p) (v:=v) λe f=>by rw [<-EZ c e f];exact hp
 have d:=Lr o;rw [ve s.ga.parts s.ga.procs] at d;exact ⟨d.symm.trans s.uI,(s.ga.inj c b).1,s.gb⟩
theorem kO.uB (hp:fG A a p=false):kO A B a (lY A t p) t':=by
 have c:=nB m.ea;have o:=cl.Fm (V:=gK A a) c s.ga.gS (p:=p) λe f=>by rw [<-EZ c e f];exact hp
 have d:=Lr o;rw [ve s.ga.parts s.ga.procs] at d;exact ⟨d.symm.trans s.uI,(s.ga.kill c b).1,s.gb⟩
end
theorem fW.flip (m:fW A B S T a):fW B A T S a where
 s:=m.r
 r:=m.s
 ea:=m.eb
 eb:=m.ea
 gm:=⟨m.gm.labels.symm,m.gm.table.symm,m.gm.fuel.symm,m.gm.lane.symm,m.gm.an.symm,m.gm.log.symm,m.gm.procs.symm⟩
 code:=λp hp b=>by rw [m.gm.fG] at b;exact (m.code p (by unfold nQ at hp ⊢;rw [m.gm.len];exact hp) b).symm
 same:=m.same.symm
theorem kO.flip (m:fW A B S T a) (s:kO A B a t t'):kO B A a t' t:=by
 have e:gK B a=gK A a:=by unfold gK;rw [m.gm.im]
 have b:=m.nT.vT;refine ⟨?_,s.gb,s.ga⟩;rw [e];exact ⟨s.uI.tick.symm,λi h=>(s.uI.part i h).symm,λp h=>(s.uI.proc p (by rw [<-b];exact h)).symm⟩
theorem kO.view (m:fW A B S T a) (s:kO A B a t t'):ln A t a=ln B t' a:=by
 have e:=m.nT;have f:=nB m.ea;have g:t.parts.length=t'.parts.length:=by rw [s.ga.parts,s.gb.parts,e.nP]
 have j:t.procs.length=t'.procs.length:=by rw [s.ga.procs,s.gb.procs,e.nQ]
 unfold ln;rw [s.jz,m.gm.im,m.gm.fG];congr 1
 ·refine List.ext_getElem? λi=> ?_;rw [List.getElem?_mapIdx,List.getElem?_mapIdx];by_cases h:i<t.parts.length
  ·rw [List.getElem?_eq_getElem h,List.getElem?_eq_getElem (by omega)];simp only [Option.map_some,Option.some.injEq];by_cases b:im A a (i:Int)=true
   ·rw [if_pos b,if_pos b];have:=s.uI.part i b;have c:(bh t).part i=t.parts[i]:=mK (List.getElem?_eq_getElem h);have d:(bh t').part i=t'.parts[i]:=mK (List.getElem?_eq_getElem (by omega));rw [<-c,<-d,this]
   ·rw [if_neg b,if_neg b]
  ·rw [List.getElem?_eq_none (by omega),List.getElem?_eq_none (by omega)]
 ·refine List.ext_getElem? λi=> ?_;rw [List.getElem?_mapIdx,List.getElem?_mapIdx];by_cases h:i<t.procs.length
  ·rw [List.getElem?_eq_getElem h,List.getElem?_eq_getElem (by omega)];simp only [Option.map_some,Option.some.injEq];by_cases b:fG A a (i:Int)=true
   ·rw [if_pos b,if_pos b];have hv:=b;rw [EZ f (by omega) (by have:=s.ga.procs;omega)] at hv;have:=s.uI.proc i hv;have c:(bh t).proc i=t.procs[i]:=mK (List.getElem?_eq_getElem h);have d:(bh t').proc i=t'.procs[i]:=mK (List.getElem?_eq_getElem (by omega));rw [<-c,<-d,this]
   ·rw [if_neg b,if_neg b]
  ·rw [List.getElem?_eq_none (by omega),List.getElem?_eq_none (by omega)]
theorem kO.first (m:fW A B S T a):kO A B a ((pP A).list A) ((pP B).list B):=
 ⟨vv m.nT (cl.first m.nT),(Ep (nB m.ea)).1,(Ep (nB m.eb)).1⟩
def gN (c:aV) (aB:Int):List aw->fz->List aw×Int×fz
 | [],t=>([],0,t)
 | x::l,t=>if x.Kind=1 then (if 1<=x.N/\x.N<=65536-aB then (l,x.N,t) else gN c aB l t)
  else if x.Kind=2 then gN c aB l (qi c t x.N x.V) else if x.Kind=3 then gN c aB l (lY c t x.N) else gN c aB l t
theorem Ko {c:aV} {aB:Int} {x:aw} {l:List aw} {t:fz} (h:cp c a x=false):
  (x.Kind=2/\fG c a x.N=false/\gN c aB (x::l) t=gN c aB l (qi c t x.N x.V))\/(x.Kind=3/\fG c a x.N=false/\gN c aB (x::l) t=gN c aB l (lY c t x.N)):=by
 unfold cp at h;simp only [Bool.or_eq_false_iff,Bool.not_eq_false',Bool.or_eq_true,beq_iff_eq] at h;obtain ⟨h1,b⟩:=h;rcases h1 with h1 | h1
 ·refine .inl ⟨h1,b,?_⟩
  conv=>lhs;unfold gN
  rw [if_neg (by omega),if_pos h1]
 ·refine .inr ⟨h1,b,?_⟩
  conv=>lhs;unfold gN
  rw [if_neg (by omega),if_neg (by omega),if_pos h1]
theorem RT (m:fW A B S T a) {aB:Int}:∀(n:Nat) {L M:List aw} {t t':fz},L.length+M.length<=n->L.filter (cp A a)=M.filter (cp A a)->kO A B a t t'->t.tick<=4611686018427387904->
  ((gN A aB L t).1.filter (cp A a)=(gN B aB M t').1.filter (cp A a)/\(gN A aB L t).2.1=(gN B aB M t').2.1/\kO A B a (gN A aB L t).2.2 (gN B aB M t').2.2)/\(gN A aB L t).2.2.tick=t.tick:=by
 intro n
 induction n with
 | zero=>intro L M t t' i d s b;have H:L=[]:=List.length_eq_zero_iff.1 (by omega);have f:M=[]:=List.length_eq_zero_iff.1 (by omega);subst H f;exact ⟨⟨rfl,rfl,s⟩,rfl⟩
 | succ n k=>
  have J:=m.gm.cF (a:=a);have I:∀ {x:aw} {L M:List aw} {t t':fz},cp A a x=false->(x::L).length+M.length<=n+1->(x::L).filter (cp A a)=M.filter (cp A a)->kO A B a t t'->t.tick<=4611686018427387904->
    ((gN A aB (x::L) t).1.filter (cp A a)=(gN B aB M t').1.filter (cp A a)/\(gN A aB (x::L) t).2.1=(gN B aB M t').2.1/\kO A B a (gN A aB (x::L) t).2.2 (gN B aB M t').2.2)/\(gN A aB (x::L) t).2.2.tick=t.tick:=by
   intro x L M t t' j i d s b;rw [List.filter_cons_of_neg (by rw [j];simp)] at d;have g:L.length+M.length<=n:=by rw [List.length_cons] at i;omega
   rcases Ko (aB:=aB) (l:=L) (t:=t) j with ⟨_,o,e⟩ | ⟨_,o,e⟩
   ·rw [e];have f:=(s.ga.inj (nB m.ea) b (p:=x.N) (v:=x.V)).2;have:=k g d (s.yJ m b (v:=x.V) o) (by rw [f];exact b);rw [f] at this;exact this
   ·rw [e];have f:=(s.ga.kill (nB m.ea) b (p:=x.N)).2;have:=k g d (s.uB m b o) (by rw [f];exact b);rw [f] at this;exact this
  have C:∀ {y:aw} {L M:List aw} {t t':fz},cp A a y=false->L.length+(y::M).length<=n+1->L.filter (cp A a)=(y::M).filter (cp A a)->kO A B a t t'->t.tick<=4611686018427387904->
    ((gN A aB L t).1.filter (cp A a)=(gN B aB (y::M) t').1.filter (cp A a)/\(gN A aB L t).2.1=(gN B aB (y::M) t').2.1/\kO A B a (gN A aB L t).2.2 (gN B aB (y::M) t').2.2)/\(gN A aB L t).2.2.tick=t.tick:=by
   intro y L M t t' j i d s b;rw [List.filter_cons_of_neg (by rw [j];simp)] at d;have g:L.length+M.length<=n:=by rw [List.length_cons] at i;omega
   have D:t'.tick<=4611686018427387904:=by rw [<-s.jz];exact b
   have F:=s.flip m;rcases Ko (c:=B) (a:=a) (aB:=aB) (l:=M) (t:=t') (by rw [J];exact j) with ⟨_,o,e⟩ | ⟨_,o,e⟩
   ·rw [e];exact k g d ((F.yJ m.flip D (v:=y.V) o).flip m.flip) b
   ·rw [e];exact k g d ((F.uB m.flip D o).flip m.flip) b
  intro L M t t' i d s b;cases L with
  | nil=>
   cases M with
   | nil=>exact ⟨⟨rfl,rfl,s⟩,rfl⟩
   | cons y M=>
    cases j:cp A a y with
    | false=>exact C j i d s b
    | true=>rw [List.filter_cons_of_pos j] at d;cases d
  | cons x L=>
   cases q:cp A a x with
   | false=>exact I q i d s b
   | true=>
    cases M with
    | nil=>rw [List.filter_cons_of_pos q] at d;cases d
    | cons y M=>
     cases E:cp A a y with
     | false=>exact C E i d s b
     | true=>
      rw [List.filter_cons_of_pos q,List.filter_cons_of_pos E] at d;obtain ⟨rfl,r⟩:=List.cons.inj d;have g:L.length+M.length<=n:=by rw [List.length_cons,List.length_cons] at i;omega
      have G:x.Kind=2\/x.Kind=3->fG A a x.N=true:=λh=>by unfold cp at q;rw [show (x.Kind==2 || x.Kind==3)=true by simpa using h] at q;simpa using q
      unfold gN;by_cases z:x.Kind=1
      ·rw [if_pos z,if_pos z];by_cases hb:1<=x.N/\x.N<=65536-aB
       ·rw [if_pos hb,if_pos hb];exact ⟨⟨r,rfl,s⟩,rfl⟩
       ·rw [if_neg hb,if_neg hb];exact k g r s b
      rw [if_neg z,if_neg z];by_cases u:x.Kind=2
      ·rw [if_pos u,if_pos u];have f:=(s.ga.inj (nB m.ea) b (p:=x.N) (v:=x.V)).2;have:=k g r (s.inj m b (v:=x.V) (G (.inl u))) (by rw [f];exact b);rw [f] at this;exact this
      rw [if_neg u,if_neg u];by_cases w:x.Kind=3
      ·rw [if_pos w,if_pos w];have f:=(s.ga.kill (nB m.ea) b (p:=x.N)).2;have:=k g r (s.kill m b (G (.inr w))) (by rw [f];exact b);rw [f] at this;exact this
      rw [if_neg w,if_neg w];exact k g r s b
end
end Lf
namespace Lf
open Go
theorem least {p:Nat->Prop} (h:∃n,p n):∃n,p n/\∀m,p m->n<=m:=by
 obtain ⟨n,e⟩:=h
 induction n using Nat.strongRecOn with
 | _ n f=>
  by_cases a:∃m,m<n/\p m
  ·obtain ⟨m,b,c⟩:=a;exact f m b c
  ·exact ⟨n,e,λm hp=>Nat.le_of_not_lt λd=>a ⟨m,d,hp⟩⟩
open Classical in
noncomputable def vS (p:Nat->Prop):Nat:=if h:∃n,p n then (least h).choose else 0
theorem xH {p:Nat->Prop} {n:Nat} (h:p n):p (vS p)/\vS p<=n:=by unfold vS;rw [dif_pos ⟨n,h⟩];have:=(least ⟨n,h⟩).choose_spec;exact ⟨this.1,this.2 n h⟩
theorem jQ.Lw {b:(Hp->Prop)->Hp->Prop} {h:Hp} (I:Nat->Hp->Prop) {n0:Nat} (d:I n0 h) (g:∀n k (K:Hp->Prop),I n k->(∀m a,m<n->I m a->K a)->b K k):jQ b h:=by refine jQ.intro (λk=>∃n,I n k) (λk=>vS λn=>I n k) ⟨n0,d⟩ λk ⟨n,f⟩=> ?_;exact g _ k _ (xH (p:=λn=>I n k) f).1 λm a e c=>⟨⟨m,c⟩,Nat.lt_of_le_of_lt (xH (p:=λn=>I n a) c).2 e⟩
theorem aA.Lw {a:Type} {c:(a->Hp->Prop)->a->Hp->Prop} {e:a} {h:Hp} (I:Nat->a->Hp->Prop) {n0:Nat} (f:I n0 e h) (j:∀n x k (K:a->Hp->Prop),I n x k->(∀m y b,m<n->I m y b->K y b)->c K x k):aA c e h:=by refine aA.intro (λx k=>∃n,I n x k) (λx k=>vS λn=>I n x k) ⟨n0,f⟩ λx k ⟨n,i⟩=> ?_;exact j _ x k _ (xH (p:=λn=>I n x k) i).1 λm y b g d=>⟨⟨m,d⟩,Nat.lt_of_le_of_lt (xH (p:=λn=>I n y b) d).2 g⟩
end Lf
namespace Lf
open Go Go.Proofs Tryz
abbrev gC (K:MK) (pm:Addr) (s:MS) (a:Nat->Nat->Int) (p:Addr) (x:dw):dB:=(aD K pm s a).star (dq dd p x)
section
variable {h0 k:Hp} {K:MK} {pm p:Addr} {t:fz} {a:Nat->Nat->Int} {x:dw} {L:List aw}
theorem Has.nr (o:Has h0 (gC K pm (bh t) a p x) k) (c:dw) {off:Nat} {new:List Value} (e:off+new.length<=6) (f:(be (dd.enc x)).take off++new++(be (dd.enc x)).drop (off+new.length)=be (dd.enc c))
  {Q:Hp->Prop} (d:∀b,Has h0 (gC K pm (bh t) a p c) b->Q b):cD k (p.add off) new Q:=by
 obtain ⟨i,j,h,_,put⟩:=o.snd;exact h.st c e f λb g=>d b (put _ _ g)
theorem Er {c:aV} (e:K.c=c) {s:MS} {b:Nat->Nat->Int} (d:dt K.c b s):aD K pm (bh (s.list c)) b=aD K pm s b/\dt K.c b (bh (s.list c)):=by subst e;exact ⟨Da rfl,DQ d⟩
theorem OU {c:aV} {aB:Int} {i:Nat} {z:aw} (e:L[i]? =some z):L.drop i=z::L.drop (i+1):=by obtain ⟨b,d⟩:=List.getElem?_eq_some_iff.1 e;rw [List.drop_eq_getElem_cons b,d]
theorem W5 {Q:Bool->Hp->Prop} (mk:dh h0 K) (A:cg K.c) (g:GT K.c t) (td:dt K.c a (bh t)) (o:Has h0 (gC K pm (bh t) a p x) k) (hm:x.m=some pm) (hs:iY h0 x.l L) (hn:L.length<=1024) {q:Nat} (b2:q<=L.length) (b1:x.at_=(q:Int)) (b3:x.left=0)
  (b4:t.tick<=4611686018427387904) (b7:0<=x.aB/\x.aB<=65536)
  (O:∀(i:Nat) f r,i<=L.length->(gN K.c x.aB (L.drop q) t).1=L.drop i->GT K.c (gN K.c x.aB (L.drop q) t).2.2->dt K.c f (bh (gN K.c x.aB (L.drop q) t).2.2)->
   Has h0 (gC K pm (bh (gN K.c x.aB (L.drop q) t).2.2) f p ⟨x.m,x.l,(i:Int),(gN K.c x.aB (L.drop q) t).2.1,x.aB,x.owner⟩) r->Q (decide ((gN K.c x.aB (L.drop q) t).2.1≠0)) r):
  Ce prog (some p) Q k:=by
 unfold Ce;obtain ⟨R,Z⟩:∃R,R=gN K.c x.aB (L.drop q) t:=⟨_,rfl⟩;rw [<-Z] at O;have a8:x.l.len=L.length:=hs.1;refine jQ.Lw (λn r=>(∃i:Nat,∃d f,n=L.length-i+1/\i<=L.length/\GT K.c d/\d.tick<=4611686018427387904/\dt K.c f (bh d)/\gN K.c x.aB (L.drop i) d=R/\Has h0 (gC K pm (bh d) f p ⟨x.m,x.l,(i:Int),0,x.aB,x.owner⟩) r)\/
   (n=0/\R.2.1≠0/\∃i:Nat,∃f,i<=L.length/\R.1=L.drop i/\GT K.c R.2.2/\dt K.c f (bh R.2.2)/\Has h0 (gC K pm (bh R.2.2) f p ⟨x.m,x.l,(i:Int),R.2.1,x.aB,x.owner⟩) r))
  (.inl ⟨q,t,a,rfl,b2,g,b4,td,Z.symm,by rw [<-b1,<-b3];exact o⟩) ?_
 rintro n k1 I (⟨i,t1,H,rfl,hi,j,w,u,b,h⟩ | ⟨rfl,a9,i,H,hi,hr,j,u,h⟩) Y
 ·refine aP ((Has.right h).ld (shf:=ab .i64) 0 rfl ?_);rw [if_pos (show ((0:Int)==0)=true from rfl)];refine aP ((Has.right h).ld (shf:=ab .i64) ((i:Nat):Int) rfl (aP ((Has.right h).ld (shf:=ak) x.l rfl ?_)));by_cases M:i=L.length
  ·rw [if_pos (by rw [a8,M];simp)];subst M;rw [List.drop_length] at b;have b:(([],0,t1):List aw×Int×fz)=R:=b;subst b;exact O L.length H k1 (Nat.le_refl _) (by rw [List.drop_length]) j u h
  ·rw [if_neg (by rw [a8];simpa using λe:(i:Int)=(L.length:Int)=>M (by omega))];have b6:i<L.length:=by omega
   refine aP ((Has.right h).ld (shf:=ak) x.l rfl (aP ((Has.right h).ld (shf:=ab .i64) ((i:Nat):Int) rfl ?_)));refine Rs.get (sh:=aZ) (Rw.mono h.le hs) (λ_=>rfl) (by decide) (by omega) (by omega) λ(z:aw) hz=> ?_;rw [Int.toNat_natCast] at hz;refine aP ((Has.right h).ld (shf:=ab .i64) ((i:Nat):Int) rfl (aP (h.nr ⟨x.m,x.l,((i+1:Nat):Int),0,x.aB,x.owner⟩ (by show 2+1<=6;omega) (by rw [wrap64 (by omega) (by omega)];rfl) λk2 s=>bU.direct ?_)));rw [OU (c:=K.c) (aB:=0) hz] at b;unfold gN at b;have D:∀ {d:fz} {f:Nat->Nat->Int} {r:Hp},GT K.c d->d.tick<=4611686018427387904->dt K.c f (bh d)->gN K.c x.aB (L.drop (i+1)) d=R->Has h0 (gC K pm (bh d) f p ⟨x.m,x.l,((i+1:Nat):Int),0,x.aB,x.owner⟩) r->I r:=λ{d f r} a1 a2 a3 a4 a5=>
    Y (L.length-(i+1)+1) r (by omega) (.inl ⟨i+1,d,f,rfl,by omega,a1,a2,a3,a4,a5⟩)
   by_cases E:z.Kind=1
   ·rw [if_pos (by simpa using E)];rw [if_pos E] at b;have tail:(aF ((decide (z.N>=(1:Int)))&&(decide (z.N<=(yw ((65536:Int)-x.aB))))) λy=>(if y=true then ag none (some p) λp8=>cD k2 (Addr.add p8 3) [(.int .i64 z.N)] (λh3=>I h3) else I k2)):=by
     refine aK ?_;rw [wrap64 (by omega) (by omega)];by_cases hb:1<=z.N/\z.N<=65536-x.aB
     ·rw [if_pos (by simpa using hb)];rw [if_pos hb] at b;subst b;refine aP (s.nr ⟨x.m,x.l,((i+1:Nat):Int),z.N,x.aB,x.owner⟩ (by show 3+1<=6;omega) rfl λP B=>Y 0 P (by omega) (.inr ⟨rfl,by show z.N≠0;omega,i+1,H,by omega,rfl,j,u,B⟩))
     ·rw [if_neg (by simpa using hb)];rw [if_neg hb] at b;exact D j w u b s
    cases b0:decide (z.N>=(1:Int)) with
    | true=>rw [b0] at tail;exact ⟨p,λ_=>rfl,x.aB,λ_=>(Has.right s).eA (n:=1) rfl,tail⟩
    | false=>rw [b0] at tail;exact ⟨p,λe=>(by cases e),x.aB,λe=>(by cases e),tail⟩
   rw [if_neg (by simpa using E)];rw [if_neg E] at b;by_cases F:z.Kind=2
   ·rw [if_pos (by simpa using F)];rw [if_pos F] at b;refine aP ((Has.right s).ld (shf:=aj) x.m rfl ?_);rw [hm];obtain ⟨h2,S,B,_,put⟩:=s.fst;refine zsc (Rh (mk.mono S) A B (j.gS.pK A) λP T=> ?_);obtain ⟨U,W⟩:=j.inj A w (p:=z.N) (v:=z.V);obtain ⟨J,X⟩:=Er (pm:=pm) rfl (u.cF (s':=(zip K.c (bh t1) z.N z.V).1) Uh);refine D U (by rw [W];exact w) X b ?_;have C:=put _ _ T;rw [<-J] at C;exact C
   rw [if_neg (by simpa using F)];rw [if_neg F] at b;by_cases G:z.Kind=3
   ·rw [if_pos (by simpa using G)];rw [if_pos G] at b;refine aP ((Has.right s).ld (shf:=aj) x.m rfl ?_);rw [hm];obtain ⟨h2,S,B,_,put⟩:=s.fst;refine ztv (WM (mk.mono S) A B (j.gS.pK A) u λb8 P T X=> ?_);obtain ⟨U,W⟩:=j.kill A w (p:=z.N);obtain ⟨J,b5⟩:=Er (pm:=pm) rfl X;refine D U (by rw [W];exact w) b5 b ?_;have C:=put _ _ T;rw [<-J] at C;exact C
   rw [if_neg (by simpa using G)];rw [if_neg G] at b;exact D j w u b s
 ·refine aP ((Has.right h).ld (shf:=ab .i64) R.2.1 rfl ?_);rw [if_neg (by simpa using a9)];have:=O i H k1 hi hr j u h;rw [decide_eq_true a9] at this;exact this
theorem RV {Q:Bool->Hp->Prop} (o:Has h0 (gC K pm (bh t) a p x) k) (b:x.left≠0) (c:Q true k):Ce prog (some p) Q k:=by unfold Ce;refine jQ.Lw (λ_ d=>d=k) (n0:=0) rfl ?_;rintro n g e rfl f;refine aP ((Has.right o).ld (shf:=ab .i64) x.left rfl ?_);rw [if_neg (by simpa using b)];exact c
theorem OV {Q:Hp->Prop} (mk:dh h0 K) (w:cg K.c) (g:GT K.c t) (B:dt K.c a (bh t)) (o:Has h0 (gC K pm (bh t) a p x) k) (n:x.m=some pm) (r:t.tick<4611686018427387904) (F:0<=x.left/\x.left<=65536) (G:0<=x.aB/\x.aB<=65536)
  (q:∀h d,dt K.c h (bh (j3 K.c t))->Has h0 (gC K pm (bh (j3 K.c t)) h p ⟨x.m,x.l,x.at_,x.left-1,x.aB+1,(iv K.c t.tick:Int)⟩) d->Q d):L5 prog (some p) Q k:=by
 unfold L5;refine aP ((Has.right o).ld (shf:=aj) x.m rfl ?_);rw [n];obtain ⟨E,v,y,_,put⟩:=o.fst;refine ztw (WN WR (mk.mono v) w y g.gS r B λi s z C=> ?_);obtain ⟨j,D⟩:=Er (pm:=pm) rfl C;have b:=put _ _ z;rw [<-j] at b;have b:Has h0 (gC K pm (bh (j3 K.c t)) i p x) s:=b;refine aP (b.nr ⟨x.m,x.l,x.at_,x.left,x.aB,(iv K.c t.tick:Int)⟩ (by show 5+1<=6;omega) rfl λH e=> ?_);refine aP ((Has.right e).ld (shf:=ab .i64) x.left rfl (aP (e.nr ⟨x.m,x.l,x.at_,x.left-1,x.aB,(iv K.c t.tick:Int)⟩ (by show 3+1<=6;omega) (by rw [wrap64 (by omega) (by omega)];rfl) λI f=> ?_)));refine aP ((Has.right f).ld (shf:=ab .i64) x.aB rfl (aP (f.nr ⟨x.m,x.l,x.at_,x.left-1,x.aB+1,(iv K.c t.tick:Int)⟩ (by show 4+1<=6;omega) (by rw [wrap64 (by omega) (by omega)];rfl) λu A=>q i u D A)))
end
def jK (aB:Int):List aw->Int
 | []=>aB
 | x::l=>if x.Kind=1/\(1<=x.N/\x.N<=65536-aB) then jK (aB+x.N) l else jK aB l
theorem Up {aB:Int} {x:aw} {l:List aw}:jK aB (x::l)=if x.Kind=1/\(1<=x.N/\x.N<=65536-aB) then jK (aB+x.N) l else jK aB l:=rfl
theorem OW {c:aV} {aB:Int} {x:aw} {l:List aw} {t:fz}:gN c aB (x::l) t=if x.Kind=1 then (if 1<=x.N/\x.N<=65536-aB then (l,x.N,t) else gN c aB l t)
  else if x.Kind=2 then gN c aB l (qi c t x.N x.V) else if x.Kind=3 then gN c aB l (lY c t x.N) else gN c aB l t:=rfl
theorem Ls {c:aV} {aB:Int}:∀ {L:List aw} {t:fz} {R:List aw×Int×fz},gN c aB L t=R->jK (aB+R.2.1) R.1=jK aB L/\0<=R.2.1/\(R.2.1=0\/R.2.1<=65536-aB)/\(R.2.1=0->R.1=[])/\(R.2.1≠0->R.1.length<L.length)
 | [],t,R,e=>by subst e;refine ⟨?_,Int.le_refl 0,.inl rfl,λ_=>rfl,λh=>absurd rfl h⟩;show jK (aB+0) []=_;rw [Int.add_zero]
 | x::l,t,R,e=>by
  rw [OW] at e;rw [Up];have key:∀b,gN c aB l b=R->jK (aB+R.2.1) R.1=jK aB l/\0<=R.2.1/\(R.2.1=0\/R.2.1<=65536-aB)/\(R.2.1=0->R.1=[])/\(R.2.1≠0->R.1.length<(x::l).length):=λb e=>by obtain ⟨d,f,g,i,j⟩:=Ls e;exact ⟨d,f,g,i,λh=>by have:=j h;rw [List.length_cons];omega⟩
  by_cases a:x.Kind=1
  ·rw [if_pos a] at e;by_cases hb:1<=x.N/\x.N<=65536-aB
   ·rw [if_pos hb] at e;rw [if_pos ⟨a,hb⟩];subst e;exact ⟨rfl,by show 0<=x.N;omega,.inr hb.2,λh=>by have h:x.N=0:=h;omega,λ_=>by show l.length<(x::l).length;simp⟩
   ·rw [if_neg hb] at e;rw [if_neg λh=>hb h.2];exact key _ e
  rw [if_neg a] at e;rw [if_neg λh=>a h.1];split at e
  ·exact key _ e
  ·split at e
   ·exact key _ e
   ·exact key _ e
theorem lU.view {c:aV} {t:fz} {a:Int} (f:lU t):lU (ln c t a):=by
 refine ⟨by show (List.mapIdx _ _).length<=1000;rw [List.length_mapIdx];exact f.parts,by show (List.mapIdx _ _).length<=1000;rw [List.length_mapIdx];exact f.procs,λx e=> ?_,λx e=> ?_⟩
 ·obtain ⟨i,b,rfl⟩:=List.mem_mapIdx.1 e;split
  ·exact f.log _ (List.getElem_mem b)
  ·exact ⟨by decide,by decide,by decide,λq d=>by cases d⟩
 ·obtain ⟨i,b,rfl⟩:=List.mem_mapIdx.1 e;split
  ·exact f.af _ (List.getElem_mem b)
  ·exact ⟨by decide,λq d=>by cases d⟩
section
variable {h0 k:Hp} {A B C D X:dB}
theorem qA {F:Nat->Prop} (h:(A.star (B.star C)).R k F):((A.star B).star C).R k F:=wc (AM (wc (AM (wc h))))
theorem Has.four (o:Has h0 (((A.star B).star C).star D) k):Has h0 ((A.star C).star (B.star D)) k:=
 o.map λ_ _ h=>AM (AP (λ_ h=>qA (AP (λ_ h=>h) (λ_ h=>wc h) (AM h))) (λ_ h=>h) h)
theorem YO {d:Hp} {K:MK} {pm:Addr} {t:fz} {e:Nat->Nat->Int} {Q:aL->Hp->Prop} (mk:dh d K) (f:cg K.c) (g:GT K.c t) (q:dt K.c e (bh t)) (o:Has d (aD K pm (bh t) e) k)
  (put:∀a,Has d (aD K pm (bh t) e) a->Has h0 X a) (l:∀r b a,h0<=b->db b r t->Has b X a->Q r a):GA prog (some pm) Q k:=by
 refine T9 mk f o (g.gS.pK f) q λr a h=> ?_;rw [ve g.parts g.procs] at h;have n:=Has.carry (X:=X) put h;obtain ⟨i,m,p,⟨F,⟨B,j,_⟩,_⟩,_⟩:=n.fst;exact l r i a m j.rd p
end
structure lR (hb k:Hp) (A B:aV) (t1 t2:fz) (pm p:Addr) (x:dw) (qm q:Addr) (y:dw):Prop where
 ex:∃K1 tm1 K2 tm2,K1.c=A/\dh hb K1/\dt A tm1 (bh t1)/\K2.c=B/\dh hb K2/\dt B tm2 (bh t2)/\Has hb ((gC K1 pm (bh t1) tm1 p x).star (gC K2 qm (bh t2) tm2 q y)) k
section
variable {hb k:Hp} {A B:aV} {t1 t2:fz} {pm p f q:Addr} {x y:dw} {S T:List aw}
theorem lR.flip (d:lR hb k A B t1 t2 pm p x f q y):lR hb k B A t2 t1 f q y pm p x:=by obtain ⟨a,l,b,m,g,i,c,h,j,e,o⟩:=d.ex;exact ⟨b,m,a,l,h,j,e,g,i,c,o.comm⟩
theorem lR.le (d:lR hb k A B t1 t2 pm p x f q y):hb<=k:=by obtain ⟨_,_,_,_,_,_,_,_,_,_,o⟩:=d.ex;exact o.le
theorem lR.one (d:lR hb k A B t1 t2 pm p x f q y):∃K n a,K.c=A/\dh a K/\dt A n (bh t1)/\hb<=a/\Has a (gC K pm (bh t1) n p x) k/\∀b e h g,dt A e (bh b)->Has a (gC K pm (bh b) e p h) g->lR hb g A B b t2 pm p h f q y:=by obtain ⟨i,D,r,E,j,m,s,u,v,t,o⟩:=d.ex;obtain ⟨a,l,z,_,put⟩:=o.fst;exact ⟨i,D,a,j,m.mono l,s,l,z,λb e h g C w=>⟨i,e,r,E,j,m,C,u,v,t,put _ _ w⟩⟩
theorem lR.base {P:Program} {g:FuncId} {args:List Value} {sh:Shape} {K0 K:sh.T->Hp->Prop} (d:lR hb k A B t1 t2 pm p x f q y) (r:aa P g args sh (λz a=>hb<=a/\K0 z a) hb) (s:∀z a b,hb<=a->K0 z a->lR a b A B t1 t2 pm p x f q y->K z b):aa P g args sh K k:=by obtain ⟨c,w,e,C,j,t,h,m,u,i,o⟩:=d.ex;refine tO o r ?_;rintro z a b ⟨l,n⟩ v;exact s z a b l n ⟨c,w,e,C,j,t.mono l,h,m,u.mono l,i,v⟩
theorem lR.state {Q:aL->Hp->Prop} (d:lR hb k A B t1 t2 pm p x f q y) (z:cg A) (g:GT A t1) (s:∀r a b,hb<=a->db a r t1->lR a b A B t1 t2 pm p x f q y->Q r b):GA prog (some pm) Q k:=by obtain ⟨i,F,j,G,rfl,h,e,n,w,m,o⟩:=d.ex;obtain ⟨H,u,C,_,put⟩:=o.fst;obtain ⟨I,v,D,_,E⟩:=C.fst;exact YO (h.mono (Hp.le_trans u v)) z g e D (λb c=>put _ _ (E _ _ c)) λr a b l t c=>s r a b l t ⟨i,F,j,G,rfl,h.mono l,e,n,w.mono l,m,c⟩
theorem lR.comes {Q:Bool->Hp->Prop} (d:lR hb k A B t1 t2 pm p x f q y) (C:cg A) (g:GT A t1) (o:x.m=some pm) (u:iY hb x.l S) (r:S.length<=1024) {b:Nat} (j:b<=S.length) (e:x.at_=(b:Int)) (n:x.left=0)
  (v:t1.tick<=4611686018427387904) (w:0<=x.aB/\x.aB<=65536) {R:List aw×Int×fz} (c:gN A x.aB (S.drop b) t1=R)
  (s:∀(i:Nat) a,i<=S.length->R.1=S.drop i->lR hb a A B R.2.2 t2 pm p ⟨x.m,x.l,(i:Int),R.2.1,x.aB,x.owner⟩ f q y->Q (decide (R.2.1≠0)) a):Ce prog (some p) Q k:=by
 obtain ⟨K,I,H,rfl,mk,F,z,E,put⟩:=d.one;subst c;exact W5 mk C g F E o (Rw.mono z u) r j e n v w λi J a h t _ G D=>s i a h t (put _ _ _ _ G D)
theorem lR.left {Q:Bool->Hp->Prop} (d:lR hb k A B t1 t2 pm p x f q y) (a:x.left≠0) (b:Q true k):Ce prog (some p) Q k:=by obtain ⟨K,e,h1,_,_,_,_,c,_⟩:=d.one;exact RV c a b
theorem lR.tick {Q:Hp->Prop} (d:lR hb k A B t1 t2 pm p x f q y) (j:cg A) (g:GT A t1) (c:x.m=some pm) (h:t1.tick<4611686018427387904) (b:0<=x.left/\x.left<=65536) (i:0<=x.aB/\x.aB<=65536)
  (e:∀a,lR hb a A B (j3 A t1) t2 pm p ⟨x.m,x.l,x.at_,x.left-1,x.aB+1,(iv A t1.tick:Int)⟩ f q y->Q a):L5 prog (some p) Q k:=by
 obtain ⟨K,v,t,rfl,mk,r,u,o,put⟩:=d.one;exact OV mk j g r o c h b i λw a s n=>e a (put _ _ _ _ s n)
theorem lR.ld {shf:Shape} (d:lR hb k A B t1 t2 pm p x f q y) (v:shf.T) {off:Nat} (hv:((be (dd.enc x)).drop off).take (be (shf.enc v)).length=be (shf.enc v)) {K:shf.T->Prop} (a:K v):aN none shf k (p.add off) K:=by obtain ⟨c,g,e,_,_,_,_,b,_⟩:=d.one;exact (Has.right b).ld v hv a
def kB (m:Addr) (l:Sl) (i left aB owner:Int):dw:=⟨some m,l,i,left,aB,owner⟩
structure E8 (h0:Hp) (t:cO) (A B:aV) (S T:List aw) (pm p f q:Addr) (n:Nat) (k:Hp):Prop where
 ex:∃hb t1 t2,∃i j:Nat,∃left aB owner:Int,h0<=hb/\i<=S.length/\j<=T.length/\(S.drop i).filter (cp A t.Label)=(T.drop j).filter (cp A t.Label)/\kO A B t.Label t1 t2/\t1.tick=aB/\0<=left/\0<=aB/\left<=65536-aB/\
  jK (aB+left) (S.drop i)=jK 0 S/\n=(S.length-i)*70000+left.toNat/\lR hb k A B t1 t2 pm p (kB pm t.S i left aB owner) f q (kB f t.T j left aB owner)
theorem W7 {X:Hp} {t:cO} {n:Nat} {Q:Bool->Int->Hp->Prop} {K:Bool->Hp->Prop} (D:pZ X t A B S T) (m:fW A B S T t.Label) (r:E8 X t A B S T pm p f q n k)
  (hq:∀O,X<=O->Q true (jK 0 S) O) (hK:∀n' O,n'<n->E8 X t A B S T pm p f q n' O->K true O):
 aa prog HY [(.pointer (some p))] aQ (λE h6=>
 aa prog HY [(.pointer (some q))] aQ (λM h7=>
 aa prog BZ [(.pointer (some pm))] nW (λr7 h8=>
 ((True/\(True/\(True/\(True/\True))))/\aa prog DU [(.agg #[t.dA.v,t.eK.v,(.int .i64 t.hU),(.int .i64 t.hZ),(.int .i64 t.fO),(.int .i64 t.jO),t.di.v]),r7.v,(.int .u64 t.Label)] nW (λr8 h9=>
 ((True/\(True/\True))/\aa prog BZ [(.pointer (some f))] nW (λr9 a8=>
 ((True/\(True/\True))/\aa prog DU [(.agg #[t.dR.v,t.fa.v,(.int .i64 t.iL),(.int .i64 t.iM),(.int .i64 t.gv),(.int .i64 t.km),t.dS.v]),r9.v,(.int .u64 t.Label)] nW (λb7 F=>
 ag none (some p) λb6=>
 aN none (ab .i64) F (Addr.add b6 5) λx=>
 ag none (some q) λp1=>
 aN none (ab .i64) F (Addr.add p1 5) λx1=>
 aF ((x !=x1) || (!(E==M))) λV=>
 cG (some (!V)) (aa prog Mz [r8.v,b7.v] aQ) (λb8 w=>
 aF (V || (!b8)) λy2=>
 (if y2=true then
 ag none (some p) λH=>
 aN none (ab .i64) w (Addr.add H 4) λJ=>
 Q false J w
 else
 (if (!E)=true then
 ag none (some p) λH=>
 aN none (ab .i64) w (Addr.add H 4) λJ=>
 Q true J w
 else
 bK prog AI [(.pointer (some p))] (λa9=>
 bK prog AI [(.pointer (some q))] (λb0=>
 K true b0) a9) w))) F) a8)) h9)) h8)) h7) h6) k:=by
  have ma:=nB m.ea;have mb:=nB m.eb;obtain ⟨hb,t1,t2,i,j,left,aB,owner,l0,hi,hj,hf,P,et,e7,Z,e8,b3,rfl,d⟩:=r.ex;have c0:∀(z G:Nat) (I U:fz) (g:Int) (k1:Hp),z<=S.length->G<=T.length->(S.drop z).filter (cp A t.Label)=(T.drop G).filter (cp A t.Label)->kO A B t.Label I U->I.tick=aB->0<=g->g<=65536-aB->
    jK (aB+g) (S.drop z)=jK 0 S->(g=0->S.drop z=[])->(g≠0->(S.length-z)*70000+(g - 1).toNat<(S.length-i)*70000+left.toNat)->
    lR hb k1 A B I U pm p (kB pm t.S z g aB owner) f q (kB f t.T G g aB owner)->∀E M,E=decide (g≠0)->M=decide (g≠0)->
    aa prog BZ [(.pointer (some pm))] nW (λr7 h8=>
 ((True/\(True/\(True/\(True/\True))))/\aa prog DU [(.agg #[t.dA.v,t.eK.v,(.int .i64 t.hU),(.int .i64 t.hZ),(.int .i64 t.fO),(.int .i64 t.jO),t.di.v]),r7.v,(.int .u64 t.Label)] nW (λr8 h9=>
 ((True/\(True/\True))/\aa prog BZ [(.pointer (some f))] nW (λr9 a8=>
 ((True/\(True/\True))/\aa prog DU [(.agg #[t.dR.v,t.fa.v,(.int .i64 t.iL),(.int .i64 t.iM),(.int .i64 t.gv),(.int .i64 t.km),t.dS.v]),r9.v,(.int .u64 t.Label)] nW (λb7 F=>
 ag none (some p) λb6=>
 aN none (ab .i64) F (Addr.add b6 5) λx=>
 ag none (some q) λp1=>
 aN none (ab .i64) F (Addr.add p1 5) λx1=>
 aF ((x !=x1) || (!(E==M))) λV=>
 cG (some (!V)) (aa prog Mz [r8.v,b7.v] aQ) (λb8 w=>
 aF (V || (!b8)) λy2=>
 (if y2=true then
 ag none (some p) λH=>
 aN none (ab .i64) w (Addr.add H 4) λJ=>
 Q false J w
 else
 (if (!E)=true then
 ag none (some p) λH=>
 aN none (ab .i64) w (Addr.add H 4) λJ=>
 Q true J w
 else
 bK prog AI [(.pointer (some p))] (λa9=>
 bK prog AI [(.pointer (some q))] (λb0=>
 K true b0) a9) w))) F) a8)) h9)) h8)) k1:=by
   intro z G I U g k1 b1 b2 e4 C e0 f6 f7 b4 e3 e2 d' E M e5 e6;have c5:=GT.kf ma C.ga;have e1:=GT.kf mb C.gb;refine zju (d'.state ma C.ga λs1 h2 k2 l2 f0 d2=>⟨⟨trivial,trivial,trivial,trivial,trivial⟩,?_⟩);have d0:=Hp.le_trans l0 l2;refine d2.base (K0:=λv N=>db N v (ln A I t.Label)) (Iy (c:=Bx t) (Lp (D.a.mono d0) f0 D.ua D.u c5 λv N l hv=>⟨l,hv⟩)) λv1 h3 k3 l3 f5 W=>⟨⟨trivial,trivial,trivial⟩,?_⟩;refine zju (W.flip.state mb C.gb λs2 h4 k4 l4 f4 d4=>⟨⟨trivial,trivial,trivial⟩,?_⟩);have b5:=Hp.le_trans d0 (Hp.le_trans l3 l4);refine d4.base (K0:=λv N=>db N v (ln B U t.Label)) (Iy (c:=EF t) (Lp (D.b.mono b5) f4 D.ub D.u e1 λv N l hv=>⟨l,hv⟩)) λv2 h5 k5 l5 c8 d5=> ?_;have L:=d5.flip;refine aP (L.ld (shf:=ab .i64) owner rfl (aP (d5.ld (shf:=ab .i64) owner rfl (aK ?_))));rw [show ((owner !=owner) || (!(E==M)))=false by rw [e5,e6];simp];rw [<-C.view m] at c8;refine pR rfl (Xm (OQ ((f5.mono (Hp.le_trans l4 l5)).mono L.le) (c8.mono L.le) c5.view.le (aK ?_)));rw [if_neg (by simp)];by_cases o:g=0
   ·rw [if_pos (by rw [e5];simp [o])];refine aP (L.ld (shf:=ab .i64) aB rfl ?_);rw [e3 o,o,Int.add_zero] at b4;have e:aB=jK 0 S:=b4;rw [e];exact hq _ (Hp.le_trans b5 (Hp.le_trans l5 L.le))
   ·rw [if_neg (by rw [e5];simp [o])];refine zsb (L.tick ma C.ga rfl (by omega) ⟨by show 0<=g;omega,by show g<=65536;omega⟩ ⟨Z,by show aB<=65536;omega⟩ λk7 d7=> ?_);refine zsb (d7.flip.tick mb C.gb rfl (by rw [<-C.jz];omega) ⟨by show 0<=g;omega,by show g<=65536;omega⟩ ⟨Z,by show aB<=65536;omega⟩ λk8 d8=> ?_);obtain ⟨q1,q2,q3⟩:=C.tick m (by omega);refine hK _ k8 (e2 o) ⟨h5,j3 A I,j3 B U,z,G,g - 1,aB+1,(iv A I.tick:Int),Hp.le_trans b5 l5,b1,b2,e4,q1,by rw [q3,e0],by omega,by omega,by omega,?_,rfl,?_⟩
    ·rw [show aB+1+(g - 1)=aB+g by omega];exact b4
    ·have d9:=d8.flip;rw [<-q2] at d9;exact d9
  by_cases o:left=0
  ·subst o;obtain ⟨R,hR⟩:∃R,gN A aB (S.drop i) t1=R:=⟨_,rfl⟩;obtain ⟨R',c6⟩:∃R,gN B aB (T.drop j) t2=R:=⟨_,rfl⟩;have c7:=RT m (aB:=aB) ((S.drop i).length+(T.drop j).length) (Nat.le_refl _) hf P (by omega);rw [hR,c6] at c7;obtain ⟨⟨c1,c2,c3⟩,c4⟩:=c7;obtain ⟨u1,u2,u3,u4,u5⟩:=Ls hR;have hs:=Rw.mono l0 D.s;have hr:=Rw.mono l0 D.r;refine LO (d.comes ma P.ga rfl hs m.s hi rfl rfl (by omega) ⟨Z,by show aB<=65536;omega⟩ hR λz k1 b1 Y d1=> ?_);refine LO (d1.flip.comes mb P.gb rfl hr m.r hj rfl rfl (by rw [<-P.jz];omega) ⟨Z,by show aB<=65536;omega⟩ c6 λG k2 b2 e9 d2=> ?_);rw [Int.add_zero] at b3;refine c0 z G R.2.2 R'.2.2 R.2.1 k2 b1 b2 (by rw [<-Y,<-e9];exact c1) c3 (by rw [c4];exact et) u2 (by rcases u3 with h | h<;>omega) (by rw [<-Y,u1];exact b3) (λh=>by rw [<-Y];exact u4 h) (λh=> ?_) ?_ _ _ rfl (by rw [c2])
   ·have:=u5 h;rw [Y,List.length_drop,List.length_drop] at this;have h3:R.2.1<=65536:=by rcases u3 with h | h<;>omega
    have h4:(S.length-z)*70000+70000<=(S.length-i)*70000:=by omega
    omega
   ·have W:=d2.flip;rw [<-c2] at W;exact W
  ·refine LO (d.left o (LO (d.flip.left o ?_)));refine c0 i j t1 t2 left k hi hj hf P et e7 e8 b3 (λh=>absurd h o) (λ_=>by omega) d _ _ ?_ ?_
   ·rw [decide_eq_true o]
   ·rw [decide_eq_true o]
end
section
variable {h:Hp} {t:cO} {A B:aV} {S T:List aw}
theorem H3 {Q:Bool->Int->Hp->Prop} (i:pZ h t A B S T) (O:∀g,h<=g->fW A B S T t.Label->Q true (jK 0 S) g) (N:∀g,h<=g->¬fW A B S T t.Label->Q false 0 g):BI prog t Q h:=by
 unfold BI;refine H5 (t:=t) (Kn i (λz j m=> ?_) λz j U=> ?_)
 ·rw [if_neg (by simp)];have Z:=nB m.ea;have mb:=nB m.eb;refine zxv (c:=Bx t) (Jd (i.a.mono j) i.ua (λ_ _ h=>absurd m.ea h) λpm k2 _ l2 st=> ?_);obtain ⟨u,H,J,L,a8,E,o1,b0⟩:=st.ex;refine tO o1 (zxv (c:=EF t) (Q:=λr e g=>∃d,r=some d/\e=0/\pw J B ((pP B).list B) d g) (Jd (i.b.mono (Hp.le_trans j E)) i.ub (λ_ _ h=>absurd m.eb h) λd V _ l3 s=>⟨d,rfl,rfl,s⟩)) ?_;rintro ⟨r,e⟩ V k4 ⟨d,f1,f2,s⟩ o2;dsimp only at f1 f2;subst f1 f2;obtain ⟨v,I,x,M,a9,F,o3,b3⟩:=s.ex;have G:=(o3.beside o2).comm;have W:=Hp.le_trans j (Hp.le_trans E F);dsimp only;refine aK ?_;rw [if_neg (by simp)];refine ia.intro (λa b f=>∃p q,a=some p/\b=some q/\∃n,E8 h t A B S T pm p d q n f) ?_ ?_
  ·have y:∀ {p q:Addr} {f:Hp},Has x ((gC u pm (bh ((pP A).list A)) H p (kB pm t.S ((0:Nat):Int) 0 0 (-1))).star (gC v d (bh ((pP B).list B)) I q (kB d t.T ((0:Nat):Int) 0 0 (-1)))) f->∃n,E8 h t A B S T pm p d q n f:=λ{p q f} o=>
    ⟨_,x,_,_,0,0,0,0, -1,W,Nat.zero_le _,Nat.zero_le _,by rw [List.drop_zero,List.drop_zero,m.same,m.gm.cF],kO.first m,(Ep Z).2,by omega,by omega,by omega,by rw [List.drop_zero];rfl,rfl,
     ⟨u,H,v,I,L,a8.mono F,b0,M,a9,b3,o⟩⟩
   refine ⟨?_,?_⟩
   ·refine vR (sh:=dd) (kB pm t.S ((0:Nat):Int) 0 0 (-1)) rfl λp C X k=>⟨⟨trivial,trivial⟩,?_⟩;refine vR (sh:=dd) (kB d t.T ((0:Nat):Int) 0 0 (-1)) rfl λq D Y r2=> ?_;exact ⟨p,q,rfl,rfl,y ((G.beside k).beside r2).four⟩
   ·refine vR (sh:=dd) (kB d t.T ((0:Nat):Int) 0 0 (-1)) rfl λq C X r2=>⟨⟨trivial,trivial⟩,?_⟩;refine vR (sh:=dd) (kB pm t.S ((0:Nat):Int) 0 0 (-1)) rfl λp D Y k=>⟨⟨trivial,trivial⟩,?_⟩;exact ⟨p,q,rfl,rfl,y ((G.comm.beside r2).beside k).four.comm⟩
  ·rintro a b C ⟨p,q,rfl,rfl,n,r⟩;refine aA.Lw (λn w f=>w=true/\E8 h t A B S T pm p d q n f) (n0:=n) ⟨rfl,r⟩ ?_;rintro n' w D K ⟨rfl,r'⟩ P;exact W7 i m r' (λf l=>O f l m) λn2 f R r2=>P n2 true f R ⟨rfl,r2⟩
 ·rw [if_pos (by simp)];exact N z j U
end
def lI :aV:=⟨[0,1],[0,1],1,1,0,1,[⟨0,[⟨22,0,0,0,0⟩]⟩,⟨1,[]⟩]⟩
def yz :List aw:=[⟨1,2,0⟩,⟨2,1,5⟩,⟨1,1,0⟩]
def MJ :List aw:=[⟨1,2,0⟩,⟨3,1,0⟩,⟨1,1,0⟩]
def Lt :List aw:=[⟨1,3,0⟩]
theorem vE :∀l∈lI.labels,iN l:=λl a=>by simp [lI] at a;omega
theorem FP :fW lI lI yz MJ 0:=⟨by decide,by decide,by kernel_rfl,by kernel_rfl,⟨rfl,rfl,rfl,rfl,rfl,rfl,rfl⟩,λ_ _ _=>rfl,by kernel_rfl⟩
theorem M4 :¬fW lI lI yz Lt 0:=λm=>by
 have h:=congrArg List.length m.same;have a:(yz.filter (cp lI 0)).length=2:=by kernel_rfl
 have b:(Lt.filter (cp lI 0)).length=1:=by kernel_rfl
 omega
section
variable {h k:Hp}
theorem RX {Q:Bool->Hp->Prop} (y:∀o,h<=o->Q true o):QM prog Q h:=by
 unfold QM;refine gI (enc:=λx:Int=>be ((ab .u64).enc x)) (sz:=1) (xs:=[0,1]) rfl (λ_=>rfl) λa1 S D J=> ?_;refine gI (enc:=λx:Int=>be ((ab .i64).enc x)) (sz:=1) (xs:=[0,1]) rfl (λ_=>rfl) λa2 U q K=> ?_;refine gI (enc:=λx=>be (bJ.enc x)) (sz:=5) (xs:=[⟨22,0,0,0,0⟩]) rfl (λ_=>rfl) λa3 V E L=> ?_;refine gI (enc:=λx=>be (bA.enc x)) (sz:=2) (xs:=[⟨0,⟨some a3,1,1⟩⟩,⟨1,⟨none,0,0⟩⟩]) rfl (λ_=>rfl) λa4 W F M=> ?_;refine gI (enc:=gF) (sz:=3) (xs:=yz) rfl (λ_=>rfl) λa5 X G N=> ?_;refine gI (enc:=gF) (sz:=3) (xs:=MJ) rfl (λ_=>rfl) λa6 g u O=> ?_;have s:=Hp.le_trans G u;have r:=Hp.le_trans F s;have j:=Hp.le_trans E r;have b:dN g ⟨⟨some a1,2,2⟩,⟨some a2,2,2⟩,1,1,0,1,⟨some a4,2,2⟩⟩ lI:=
  ⟨Rw.mono (Hp.le_trans q j) (J.iq λ_=>rfl),Rw.mono j (K.iq λ_=>rfl),rfl,rfl,rfl,rfl,_,Rw.mono s (M.iq λ_=>rfl),⟨rfl,_,Rw.mono r (L.iq λ_=>rfl),rfl⟩,⟨rfl,[],Rw.nil rfl,rfl⟩,trivial⟩
 have n:iY g ⟨some a5,3,3⟩ yz:=Rw.mono u (N.iq λ_=>rfl);have p:pZ g ⟨⟨some a1,2,2⟩,⟨some a2,2,2⟩,1,1,0,1,⟨some a4,2,2⟩,⟨some a1,2,2⟩,⟨some a2,2,2⟩,1,1,0,1,⟨some a4,2,2⟩,⟨some a5,3,3⟩,⟨some a6,3,3⟩,0⟩ lI lI yz MJ:=
  ⟨b,b,n,O.iq λ_=>rfl,vE,vE,by show (0:Int)<=0/\(0:Int)<18446744073709551616;omega⟩
 have C:=Hp.le_trans D (Hp.le_trans q j);refine Gu (t:=⟨⟨some a1,2,2⟩,⟨some a2,2,2⟩,1,1,0,1,⟨some a4,2,2⟩,⟨some a1,2,2⟩,⟨some a2,2,2⟩,1,1,0,1,⟨some a4,2,2⟩,⟨some a5,3,3⟩,⟨some a6,3,3⟩,0⟩) (H3 p (λY v m=> ?_) λ_ _ f=>absurd FP f);refine H5 (t:=⟨⟨some a1,2,2⟩,⟨some a2,2,2⟩,1,1,0,1,⟨some a4,2,2⟩,⟨some a1,2,2⟩,⟨some a2,2,2⟩,1,1,0,1,⟨some a4,2,2⟩,⟨some a5,3,3⟩,⟨some a6,3,3⟩,0⟩) (Kn (p.mono v) (λZ H _=> ?_) λ_ _ f=>absurd FP f);refine gI (enc:=gF) (sz:=3) (xs:=Lt) rfl (λ_=>rfl) λa7 B I P=> ?_;have a:=Hp.le_trans v (Hp.le_trans H I);have d:=b.mono a;have z:pZ B ⟨⟨some a1,2,2⟩,⟨some a2,2,2⟩,1,1,0,1,⟨some a4,2,2⟩,⟨some a1,2,2⟩,⟨some a2,2,2⟩,1,1,0,1,⟨some a4,2,2⟩,⟨some a5,3,3⟩,⟨some a7,1,1⟩,0⟩ lI lI yz Lt:=
  ⟨d,d,Rw.mono a n,P.iq λ_=>rfl,vE,vE,by show (0:Int)<=0/\(0:Int)<18446744073709551616;omega⟩
 refine Gu (t:=⟨⟨some a1,2,2⟩,⟨some a2,2,2⟩,1,1,0,1,⟨some a4,2,2⟩,⟨some a1,2,2⟩,⟨some a2,2,2⟩,1,1,0,1,⟨some a4,2,2⟩,⟨some a5,3,3⟩,⟨some a7,1,1⟩,0⟩) (H3 z (λ_ _ m=>absurd m M4) λT i _=> ?_);refine aK (aK (aK (aK ?_)));rw [show ((((true&&true)&&(jK 0 yz==(3:Int)))&&(!false))&&((0:Int)==(0:Int)))=true from rfl];refine pR rfl (Ih (c:=⟨⟨some a1,2,2⟩,⟨some a2,2,2⟩,1,1,0,1,⟨some a4,2,2⟩⟩) (l:=⟨some a5,3,3⟩) (Jl (d.mono i) vE (by show (0:Int)<=0/\(0:Int)<18446744073709551616;omega) (Rw.mono (Hp.le_trans a i) n) (by decide) λR A w=>aK ?_));have e:R.len=2:=by rw [w.gr];kernel_rfl
 rw [e];exact y A (Hp.le_trans C (Hp.le_trans a (Hp.le_trans i w.le)))
theorem W9 {d:Type} {sz bytes:Nat} {enc:d->List Value} {zero:List Value} {cap:Int} {K:Sl->Hp->Prop} (g:zero.length=sz) (e:0<=cap) (c:cap<=281474976710656/\cap.toNat*bytes<=281474976710656)
  (f:∀l a,k<=a->Has k (dD sz enc l ([]:List d)) a->K l a):c9 bytes zero 0 cap K k:=
 ⟨⟨by omega,e,c.1,c.2⟩,λb t hb=>f _ _ (lP hb) (Has.su (b:=b) (cs:=fc zero cap.toNat) (lP hb) hb ⟨t,mI⟩ rfl rfl (Nat.zero_le _) (by rw [v7,g]) (by simp))⟩
theorem Rw.pre {d:Type} {sz:Nat} {enc:d->List Value} {l:Sl} {b n:List d} {c:Nat} (r:Rw h sz enc l (b++n)) (j:∀x,(enc x).length=sz):Rw h sz enc ⟨l.base,b.length,c⟩ b:=by
 obtain ⟨o,p,f⟩:=r;refine ⟨rfl,iK j b,?_⟩;rcases f with e | ⟨a,g,m⟩
 ·left;rw [List.length_append,Nat.add_mul] at e;omega
 ·right;refine ⟨a,g,λi v hv=>m i v ?_⟩;rw [List.flatMap_append,List.getElem?_append_left (List.getElem?_eq_some_iff.1 hv).1];exact hv
theorem nU {x:ay} {c:aV} {a:Int} {l:Sl} {xs:List aw} {Q:Bool->Hp->Prop} (R:dN h x c) (P:∀l∈c.labels,iN l) (M:iN a) (C:iY h l xs) (Z:∀X,h<=X->Q true X):Pd prog x l a Q h:=by
 unfold Pd;have Y:l.len=xs.length:=C.1;refine zts (RX λk1 D=> ?_);rw [if_neg (by simp)];by_cases b5:1048576<xs.length
 ·rw [if_pos (decide_eq_true (by omega))];exact Z k1 D
 rw [if_neg (λe=>b5 (by have:=of_decide_eq_true e;omega))];have N:xs.length<=1048576:=by omega
 obtain ⟨W,L⟩:∃W,W=xs.filter (cp c a):=⟨_,rfl⟩;have c3:W.length<=1048576:=by have:=List.length_filter_le (cp c a) xs;rw [<-L] at this;omega
 refine ztt (c:=x) (OT (R.mono D) P M (Rw.mono D C) N λr1 k2 G=> ?_);rw [<-L] at G;have a8:=Hp.le_trans D G.le;have s1:=G.iq λ_=>rfl;have e1:=G.gr;refine W9 (enc:=gF) (sz:=3) rfl (by rw [wrap64 (by omega) (by omega)];omega) (by rw [wrap64 (by omega) (by omega)];omega) λr2 k3 l3 o2=> ?_;refine o2.app (Rw.mono (Hp.le_trans a8 l3) C) (λ_=>rfl) (λ_=>rfl) rfl (by simp only [List.length_nil];omega) λr3 k4 o3=> ?_;rw [List.nil_append] at o3;refine gI (enc:=gF) (sz:=3) (xs:=[⟨77,0,0⟩,⟨77,0,0⟩]) rfl (λ_=>rfl) λa1 k5 l5 H=> ?_;refine (o3.grow l5).app (H.iq λ_=>rfl) (λ_=>rfl) (λ_=>rfl) rfl (by simp only [List.length_cons,List.length_nil];omega) λg k6 A=> ?_;have V:=A.gr;have c4:=A.tj;rw [List.length_append] at V;simp only [List.length_cons,List.length_nil] at V;refine ⟨⟨by omega,by omega⟩,aK ?_⟩;rw [xo,Int.toNat_natCast,Nat.sub_zero,Nat.sub_zero];have S:=Hp.le_trans a8 A.le;have b4:=A.iq λ_=>rfl;have U:iY k6 ⟨g.base,l.len,g.cap⟩ xs:=by rw [Y];exact b4.pre λ_=>rfl
 refine Ih (c:=x) (l:=⟨g.base,l.len,g.cap⟩) (Jl (R.mono S) P M U N λr5 k7 B=> ?_);refine Ih (c:=x) (l:=⟨g.base,l.len,g.cap⟩) (Jl (R.mono (Hp.le_trans S B.le)) P M (Rw.mono B.le U) N λr6 k8 T=> ?_);rw [<-L] at B T;have e5:=B.gr;have e6:=T.gr;refine aK ?_;rw [if_neg (by rw [e5,e6,e1];simp)];obtain ⟨hb,E,o8,⟨F2,f2,f3⟩,_⟩:=(B.beside T).fst;have o9:Has k6 (dD 3 gF r6 W) hb:=⟨E,F2,f2,f3⟩;have s6:=o9.iq λ_=>rfl;have c0:=Hp.le_trans A.le E;have b3:iY hb r1 W:=Rw.mono c0 s1;have neq:∀ {z:aw} {p q:Operand} {k:Hp} {K:Prop},K->fK none prog (cE .neq 32 p q z.v z.v) aQ k λx=>(if x=true then Q false k else K):=λ{z p q k K} f=>by refine ⟨_,If,?_⟩;dsimp only;rw [if_neg (by rw [mV.2 rfl];simp)];exact f
 refine mX (n:=W.length) (by omega) (by omega) (λi d=>Has hb (dD 3 gF r5 (List.replicate i ⟨99,0,0⟩++W.drop i)) d) (by simpa using o8) ?_ ?_
 ·intro i r d o K f;have O:(List.replicate i (⟨99,0,0⟩:aw)++W.drop i)[i]? =some W[i]:=by rw [List.getElem?_append_right (by simp),List.length_replicate,Nat.sub_self,List.getElem?_drop,Nat.add_zero,List.getElem?_eq_getElem r]
  have c5:=(List.getElem?_eq_some_iff.1 O).1;refine Rs.get (sh:=aZ) (o.iq λ_=>rfl) (λ_=>rfl) (by decide) (by omega) (by omega) λ(z:aw) b=> ?_;rw [Int.toNat_natCast,O] at b;refine Rs.get (sh:=aZ) (Rw.mono o.le b3) (λ_=>rfl) (by decide) (by omega) (by omega) λ(w:aw) t=> ?_;rw [Int.toNat_natCast,List.getElem?_eq_getElem r] at t;have y:z=w:=Option.some.inj (b.symm.trans t);subst y;refine neq ⟨?_,?_⟩
  ·exact (Rs.get (sh:=aZ) (K:=λ_=>True) (i:=(i:Int)) (o.iq λ_=>rfl) (λ_=>rfl) (by decide) (by omega) (by omega) λ_ _=>trivial).1
  ·refine o.wL (λ_=>rfl) (i:=i) (x':=(⟨99,0,0⟩:aw)) (off:=0) (new:=gF ⟨99,0,0⟩) O (Nat.le_refl 3) (List.append_nil _) λk4 H=>f k4 ?_;rw [List.set_append_right _ _ (by simp),List.length_replicate,Nat.sub_self,List.drop_eq_getElem_cons r,List.set_cons_zero] at H;rw [List.replicate_succ',List.append_assoc];exact H
 ·intro k9 o;rw [List.drop_length,List.append_nil] at o;refine Bb (n:=9) rfl (by decide) (λi s d=>∃I:List aw,I.length<=1048576+i/\Has hb (dD 3 gF s I) d) ⟨_,by rw [List.length_replicate];omega,o⟩ ?_ ?_
  ·rintro i r s d ⟨I,hy,o'⟩ K f;refine o'.push (e:=⟨98,0,0⟩) rfl (λ_=>rfl) (λ_=>rfl) rfl ⟨by omega,by omega⟩ λs' u c1=>f s' u ⟨_,by rw [List.length_append];simp only [List.length_cons,List.length_nil];omega,c1⟩
  ·rintro s b8 ⟨I,_,c2⟩;have F:=c2.le;refine mX (n:=W.length) (by omega) (by omega) (λi d=>d=b8) rfl ?_ ?_
   ·rintro i r d rfl K f;refine Rs.get (sh:=aZ) (Rw.mono F s6) (λ_=>rfl) (by decide) (by omega) (by omega) λ(z:aw) b=> ?_;refine Rs.get (sh:=aZ) (Rw.mono F b3) (λ_=>rfl) (by decide) (by omega) (by omega) λ(w:aw) t=> ?_;have y:z=w:=Option.some.inj (b.symm.trans t);subst y;exact neq (f _ rfl)
   ·rintro d rfl;have a9:=Hp.le_trans S (Hp.le_trans E F);have b0:=Hp.le_trans E F;refine mX (n:=xs.length) (by omega) (by omega) (λi u=>u=d) rfl ?_ ?_
    ·rintro i r u rfl K f;refine Rs.get (sh:=aZ) (Rw.mono b0 U) (λ_=>rfl) (by decide) (by omega) (by omega) λ(z:aw) b=> ?_;refine Rs.get (sh:=aZ) (Rw.mono a9 C) (λ_=>rfl) (by decide) (by omega) (by omega) λ(w:aw) t=> ?_;have y:z=w:=Option.some.inj (b.symm.trans t);subst y;exact neq (f _ rfl)
    ·rintro u rfl;have w2:yw (((l.len:Nat):Int)+(2:Int))=((xs.length+2:Nat):Int):=by rw [wrap64 (by omega) (by omega)];omega
     have w1:yw (((l.len:Nat):Int)+(1:Int))=((xs.length+1:Nat):Int):=by rw [wrap64 (by omega) (by omega)];omega
     rw [w2,w1];refine ⟨⟨by omega,by show ((xs.length+2:Nat):Int)<=((g.cap:Nat):Int);omega⟩,aK ?_⟩;rw [xo,Int.toNat_natCast,Nat.sub_zero,Nat.sub_zero];have rr:iY u ⟨g.base,xs.length+2,g.cap⟩ (xs++ [⟨77,0,0⟩,⟨77,0,0⟩]):=by obtain ⟨g1,g2,g3⟩:=Rw.mono b0 b4;exact ⟨by rw [List.length_append];rfl,g2,g3⟩
     obtain ⟨b1,z,b,b6⟩:=Rw.read rr (λ_=>rfl) (by decide) (i:=((l.len:Nat):Int)) (by omega) (by show ((l.len:Nat):Int)<((xs.length+2:Nat):Int);omega);have J:z=⟨77,0,0⟩:=by rw [Int.toNat_natCast,Y,List.getElem?_append_right (Nat.le_refl _),Nat.sub_self] at b;exact (Option.some.inj b).symm
     subst J;refine ⟨b1,77,?_,?_⟩
     ·intro j v m
      match j,m with
      | 0,m=>exact b6 0 v m
     ·obtain ⟨b2,z,b,b7⟩:=Rw.read rr (λ_=>rfl) (by decide) (i:=((xs.length+1:Nat):Int)) (by omega) (by show ((xs.length+1:Nat):Int)<((xs.length+2:Nat):Int);omega);have J:z=⟨77,0,0⟩:=by rw [Int.toNat_natCast,List.getElem?_append_right (by omega),Nat.add_sub_cancel_left] at b;exact (Option.some.inj b).symm
      subst J;refine ⟨λ_=>b2,77,λ_=> ?_,aK (Z _ a9)⟩;intro j v m
      match j,m with
      | 0,m=>exact b7 0 v m
end
theorem wS {P:Program} {W:World} {base:Nat} {t:TypeId} {v:Value} {n:Int} (hv:Value.okWide P W .any base t v) (h:v.cells.toList=[.int .u64 n]) (a:P.underlying t=some (.int .u64)):v=.int .u64 n:=by obtain ⟨m,rfl⟩:=Go.WideShapes.okWide_int a hv;simpa [Value.cells] using h
end Lf
