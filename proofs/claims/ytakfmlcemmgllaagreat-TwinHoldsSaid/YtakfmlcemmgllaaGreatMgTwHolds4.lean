/-
  Part 5 of the texts that the claim leans on.
-/
import Derived.RangeFuncFrom
import Derived.RangeFuncBound
import Derived.RangeFuncCalls
import Derived.RangeFuncLeaves
import Derived.Shelf.Abstract
import Derived.Shelf.RegionOpen
import Derived.WalkKit
import Derived.OwnWalkIn
import Derived.TacticsInMore
import Derived.LoopNIn
import Derived.LoopIn
import Derived.Test.YtakfmlcemmgllaaGreatProg
import Derived.ChangeKeysEq
import Derived.ProofKit
import Derived.SizedLaws
import Derived.OpenShut
import Derived.Laws.IdiomStrings
import Derived.Test.YtakfmlcemmgllaaGreatMgTwHolds3
set_option maxRecDepth 100000
namespace Lf
open Go Go.Proofs Tryz
section
variable {h0 h1 k:Hp} {K:MK} {pm:Addr} {s:MS} {b:Nat->Nat->Int}
theorem Has.agree {a:Addr} {z c:aU} (f:Has h0 (dR bE a c) k) (g:Has h1 (dR bE a z) k):c.post=z.post:=by obtain ⟨h,d,rfl⟩:=f.ld (shf:=aj) (off:=14) c.post rfl (K:=λy=>y=c.post) rfl;obtain ⟨i,e,rfl⟩:=g.ld (shf:=aj) (off:=14) z.post rfl (K:=λy=>y=z.post) rfl;have d:=d 0 (.pointer c.post) rfl;have e:=e 0 (.pointer z.post) rfl;grind
theorem gk.same {p:Nat} {z d:aU} {a c:Addr} {y h:ak} (f:gk K p z a y) (g:gk K p d c h) (e:d.post=z.post):c=a:=by rw [f.2.2.2.2.2.2,g.2.2.2.2.2.2] at e;grind
theorem ace {c:aW} {p:Nat} {to v:Int}:jk c (iE c) s p to v=if to<0\/(nQ c:Int)<=to then cx c s p 1
 else if iE c (aB c p) (aB c to.toNat)=false then cx c (s.dz (aB c p) {s.part (aB c p) with forbidden:=more (s.part (aB c p)).forbidden}) p 0
 else if aB c p=aB c to.toNat then DU c s p to.toNat v
 else if jX (s.proc to.toNat)=false\/fk c (s.proc to.toNat) (aB c p) then cx c (s.aO to.toNat (bL (s.proc to.toNat) (aB c p) jN)) p 0
 else cx c (s.aO to.toNat (eC (bL (s.proc to.toNat) (aB c p) (sH v)))) p 0:=rfl
theorem ZM {p:Nat} {to v:Int} {Q:Hp->Prop} (m:dC h0 K) (I:cH K.c) (o:Has h0 (aK K pm s b) k) (t:j5 K.c s) (hp:p<nQ K.c) (hn:∀q,q<nQ K.c->∀l∈(s.proc q).ag,∀z∈l.waiters,z.proc≠(p:Int))
  (a:∀r,Has h0 (aK K pm (jk K.c (iE K.c) s p to v) b) r->Q r):TX prog (some pm) (some (K.p p)) to v Q k:=by
 unfold TX;rw [ace] at a;have b1:=m.oi;have e0:(rH K.x s.tick).procs=K.x.procs:=rfl;refine aY (o.ft.Cz (shf:=an) K.x.procs rfl ?_);refine aJ ?_;rw [b1];by_cases h:to<0\/(nQ K.c:Int)<=to
 ·rw [if_pos (by simp;omega)];rw [if_pos h] at a;exact C1 (EL m o hp (t.told hp) a)
 rw [if_neg (by simp;omega)];rw [if_neg h] at a;have g:to.toNat<nQ K.c:=by omega
 have Y:((to.toNat:Nat):Int)=to:=by omega
 obtain ⟨M,N⟩:=m.ptr o g;rw [Y] at M N;obtain ⟨h1,j,ap,l1,b2,op,c0⟩:=o.dN hp;obtain ⟨h2,f,S,l2,B,A,_⟩:=o.dN g;have u:aB K.c p<nP K.c:=I.fD;have i:j.part=(aB K.c p:Int):=b2.2.1;have eq:f.part=(aB K.c to.toNat:Int):=B.2.1;have W:f.post=some S:=B.2.2.2.2.2.2;refine aY (o.ft.ld (shf:=an) K.x.procs rfl ⟨M,some (K.p to.toNat),N,?_⟩);refine aY (o.ft.ld (shf:=aj) K.x.table rfl ?_);refine aY (op.ld (shf:=ab .i64) j.part rfl ?_);refine aY (A.ld (shf:=ab .i64) f.part rfl ?_);rw [m.t1,i,eq];refine Rp (TP (m.t2.mono o.le) m.Cy ?_);have U:fl K.c.labels (aB K.c p:Int) (aB K.c to.toNat:Int)=iE K.c (aB K.c p) (aB K.c to.toNat):=rfl;rw [U];by_cases G:iE K.c (aB K.c p) (aB K.c to.toNat)=false
 ·rw [if_pos (by rw [G];rfl)];rw [if_pos G] at a;obtain ⟨O,E⟩:=m.uw o u;obtain ⟨h3,x,lp,wp,l3,w,R,b6⟩:=o.tJ u;refine aY (o.ft.ld (shf:=an) K.x.parts rfl ?_);refine aY (op.ld (shf:=ab .i64) j.part rfl ?_);rw [i];refine ⟨O,_,E,?_⟩;refine aY (o.ft.ld (shf:=an) K.x.parts rfl ?_);refine aY (op.ld (shf:=ab .i64) j.part rfl ?_);rw [i];refine ⟨O,_,E,?_⟩;refine aY (R.ld (shf:=ab .i64) x.forbidden rfl ?_);have ex:x.forbidden=(s.part (aB K.c p)).forbidden:=w.2.2.2.1;rw [ex];refine zyq (Kw (t.part _ u).lT ?_);refine ⟨⟨o.ft.fq (n:=1) rfl,by rw [<-i];exact op.fq (n:=1) rfl,E,trivial⟩,?_⟩;refine aY (R.st (⟨x.procs,x.af,x.log,x.lost,more (s.part (aB K.c p)).forbidden,x.ai,x.eD⟩:bC) (by show 4+1<=7;omega) rfl λk1 D=> ?_);have L:=b6 (⟨x.procs,x.af,x.log,x.lost,more (s.part (aB K.c p)).forbidden,x.ai,x.eD⟩:bC) {s.part (aB K.c p) with forbidden:=more (s.part (aB K.c p)).forbidden} _ ⟨w.1,w.2.1,w.2.2.1,rfl,w.2.2.2.2⟩ rfl rfl rfl rfl D;exact C1 (EL m L hp (t.told hp) a)
 rw [if_neg (by grind)];rw [if_neg G] at a;refine aY (op.ld (shf:=ab .i64) j.part rfl ?_);refine aY (A.ld (shf:=ab .i64) f.part rfl ?_);rw [i,eq];by_cases H:aB K.c p=aB K.c to.toNat
 ·rw [if_pos (by rw [H];simp)];rw [if_pos H] at a;exact zuw (Xp m I o t hp g (hn _ g) a)
 rw [if_neg (by simp;omega)];rw [if_neg H] at a;have sq:=t.proc _ g;refine cC.intro (λr=>∃y:ak,y.pc=(s.proc to.toNat).pc/\Has h0 (aK K pm (s.aO to.toNat y) b) r/\∀d,Has h0 (aK K pm (cx K.c (s.aO to.toNat y) p 0) b) d->Q d) ?_ ?_
 ·have drop:∀(P:jX (s.proc to.toNat)=false\/fk K.c (s.proc to.toNat) (aB K.c p)=true),
   ah none (some (K.p to.toNat)) λb4=>
   aQ none aj k (Addr.add b4 14) λb7=>
   ah none (some (K.p p)) λb5=>
   aQ none (ab .i64) k (Addr.add b5 1) λb8=>
   bV prog JG [(.pointer b7),(.int .i64 b8)] (λF=>∃y:ak,y.pc=(s.proc to.toNat).pc/\Has h0 (aK K pm (s.aO to.toNat y) b) F/\∀d,Has h0 (aK K pm (cx K.c (s.aO to.toNat y) p 0) b) d->Q d) k:=by
   intro P;rw [if_pos P] at a;obtain ⟨z4,a4,b9,b3,T⟩:=Ky (C:=True) (Q:=λF=>∃y:ak,y.pc=(s.proc to.toNat).pc/\Has h0 (aK K pm (s.aO to.toNat y) b) F/\∀d,Has h0 (aK K pm (cx K.c (s.aO to.toNat y) p 0) b) d->Q d) o g sq (Nat.le_of_lt u) λr J=>⟨_,Da,J,a⟩;refine aY (b3 (aY (op.ld (shf:=ab .i64) j.part rfl ?_)));rw [i];exact zuu T
  refine aY (A.ld (shf:=ab .i64) f.state rfl ?_);refine X7 (FB ?_);have X:f.state=(s.proc to.toNat).state:=B.2.2.2.1;have V:(decide (f.state≠5)&&decide (f.state≠6))=jX (s.proc to.toNat):=by rw [X];rfl
  rw [V];refine aY (A.Cz (shf:=aj) f.post rfl ?_);refine aY (op.Cz (shf:=ab .i64) j.part rfl ?_);rw [i,W];by_cases hl:jX (s.proc to.toNat)=false
  ·rw [hl];refine ⟨λe=>(by cases e),λ_=>⟨0,aJ ?_⟩⟩;grind
  ·have b0:jX (s.proc to.toNat)=true:=by grind
   rw [b0];refine ⟨λ_=> ?_,λe=>(by cases e)⟩;refine X6 (DT o g sq I.lane.2 (Nat.le_of_lt u) B A (λa8=>aJ ?_) λr a8 J=>aJ ?_)
   ·grind
   ·rw [if_neg (by decide)];rw [if_neg (by grind)] at a;refine SH (C8 J g λk1 D=> ?_);rw [gy,B8] at D;exact ⟨_,by rw [Kx,Da],D,a⟩
 ·rintro d ⟨y,Z,L,a9⟩;refine C1 (EL m L hp ?_ a9);rw [zW Z];exact t.told hp
theorem IZ {p:Int} {Q:Int->Hp->Prop} (m:dC h0 K) (o:Has h0 (aK K pm s b) k) (a:Q (qM K.c s p) k):TV prog (some pm) p Q k:=by
 unfold TV;unfold qM at a;have l:=m.oi;refine aY (o.ft.Cz (shf:=an) K.x.procs rfl ?_);refine aJ ?_;rw [l];by_cases h:p<0\/(nQ K.c:Int)<=p
 ·rw [if_pos (by simp;omega)];rw [if_pos h] at a;exact a
 rw [if_neg (by simp;omega)];rw [if_neg h] at a;have g:p.toNat<nQ K.c:=by omega
 have j:((p.toNat:Nat):Int)=p:=by omega
 obtain ⟨e,f⟩:=m.ptr o g;rw [j] at e f;obtain ⟨u,d,r,v,n,q,_⟩:=o.dN g;refine aY (o.ft.ld (shf:=an) K.x.procs rfl ⟨e,some (K.p p.toNat),f,?_⟩);refine aY (q.ld (shf:=ab .i64) d.state rfl ?_);refine X7 (FB ?_);have i:d.state=(s.proc p.toNat).state:=n.2.2.2.1;have t:(decide (d.state≠5)&&decide (d.state≠6))=jX (s.proc p.toNat):=by rw [i];rfl
 grind
theorem Nn {p v:Int} {Q:Int->Hp->Prop} (m:dC h0 K) (A:cH K.c) (o:Has h0 (aK K pm s b) k) (D:j5 K.c s) (a:∀e,Has h0 (aK K pm (rW K.c s p v).1 b) e->Q (rW K.c s p v).2 e):Ti prog (some pm) p v Q k:=by
 unfold Ti;refine zlp (IZ m o ?_);unfold rW at a;by_cases h:qM K.c s p≠0
 ·grind
 rw [if_neg (by simpa using h)];rw [if_neg h] at a;have G:0<=p/\p<(nQ K.c:Int):=by refine Classical.byContradiction λF=>h ?_;unfold qM;omega
 have d:p.toNat<nQ K.c:=by omega
 have w:((p.toNat:Nat):Int)=p:=by omega
 obtain ⟨g,i⟩:=m.ptr o d;rw [w] at g i;obtain ⟨E,q,r,I,j,n,_⟩:=o.dN d;have u:q.post=some r:=j.2.2.2.2.2.2;have sq:=D.proc _ d;refine aY (o.ft.ld (shf:=an) K.x.procs rfl ⟨g,some (K.p p.toNat),i,?_⟩);refine aY (o.ft.ld (shf:=an) K.x.parts rfl ?_);refine aY (n.ld (shf:=aj) q.post rfl ?_);rw [u,m.ry];refine X6 (DT o d sq A.lane.2 (Nat.le_refl _) j n (λf=> ?_) λe f B=> ?_)
 ·rw [if_pos (by decide)];rw [if_pos f] at a;obtain ⟨J,a4,H,z,t⟩:=Ky (C:=True) (Q:=λe=>Q 19 e) o d sq (Nat.le_refl _) a;exact aY (z (zuu t))
 ·rw [if_neg (by decide)];rw [if_neg (by rw [f];decide)] at a;refine SH (C8 B d λy l=> ?_);rw [gy,B8] at l;exact a y l
end
def zd :Prop:=∀ {c k:Hp} {p:Addr} {room af:Int} {a:List bH} {Q:Int->Int->bB->Bool->Int->Hp->Prop},Has c (eR p room a af) k->(a.length<=1000/\∀l∈a,kh l.taken/\l.values.length<=64)->(0<=af/\af<a.length)->
 (pJ af a=none->∀b,Has c (eR p room a af) b->Q 0 0 ⟨0,0⟩ false 21 b)->
 (∀(i:Nat) l v d,pJ af a=some i->a[i]? =some l->l.values=v::d->∀b,Has c (eR p room (a.set i (eB l)) (((i+1:Nat):Int)%(a.length:Int))) b->
  Q v (i:Int) (match l.waiters with | []=>⟨0,0⟩ | w::_=>oH w) (!l.waiters.isEmpty) 0 b)->
 zA prog Zv [.pointer (some p)] (ab .i64) (ab .i64) aH aR (ab .i64) Q k
section
variable {h0 h1 k:Hp} {K:MK} {pm:Addr} {s:MS} {a:Nat->Nat->Int}
theorem acf {l:List eT} {k:Core} {v f:Int}:(gW l k v f).pc=k.pc+1:=by unfold gW;cases ie l k.pc<;>rfl
theorem wO {p:Nat} {c:bm} {Q:Hp->Prop} (o:Has h0 (aK K pm s a) k) (hp:p<nQ K.c) (d:∀b,Has h0 (aK K pm (s.aO p ((s.proc p).put (gM c))) a) b->Q b):
  da k ((K.p p).add 4) [(.int .i64 c.PC),(.int .i64 c.bW),(.int .i64 c.bX),(.int .i64 c.bY),(.int .i64 c.bZ),(.int .i64 c.cc),(.int .i64 c.cd),(.int .i64 c.cf),(.int .i64 c.cg)] Q:=by
 obtain ⟨h1,z,q,i,e,f,put⟩:=o.dN hp;exact f.st (vq z c) (by show 4+9<=15;omega) rfl λh g=>d _ (put _ _ _ (e.core c) rfl rfl g)
theorem I0 {p:Nat} {G:Bool} {Q:Hp->Prop} (tk:zd) (m:dC h0 K) (mc:cH K.c) (o:Has h0 (aK K pm s a) k) (t:j5 K.c s) (hp:p<nQ K.c)
  (b:∀M,Has h0 (aK K pm (iS K.c s p G) a) M->Q M):TY prog (some pm) (some (K.p p)) G Q k:=by
 unfold TY;obtain ⟨h1,z,q,l1,hz,oz,o1,put⟩:=o.oh hp;have sp:=t.proc p hp;have eq:z.post=some q:=hz.2.2.2.2.2.2;refine aY (oz.ld (shf:=aj) z.post rfl ?_);rw [eq];have a9:=mc.parts;have a8:=sp.len;unfold iS at b;dsimp only at b;refine tk o1 ⟨by omega,λl r=>⟨(sp.eJ l r).taken,(sp.eJ l r).values⟩⟩ sp.cur (λX k1 E=> ?_) λi l v vs Y r hv k1 E=> ?_
 ·rw [if_neg (by decide)];rw [X] at b;dsimp only at b;have h:=put _ _ _ E;have n:s.aO p {s.proc p with ag:=(s.proc p).ag,af:=(s.proc p).af}=s:=IY;rw [n] at h;obtain ⟨W,d,q2,l2,f,j,F⟩:=h.dN hp;have T:d.bN=(s.proc p).bN:=f.2.2.2.2.2.1;refine aY (j.ld (shf:=aR) d.bN rfl ?_);rw [T];by_cases B:(s.proc p).bN=true
  ·rw [if_pos B];rw [if_pos B] at b;refine aY (j.st (uN d false) (by show 13+1<=15;omega) rfl λN A=> ?_);have P:=F _ _ _ (f.bN false) rfl rfl A;have e:gM (eZ d)=(s.proc p).core:=f.2.2.2.2.1;have u:(eZ d).PC=(s.proc p).pc:=congrArg Core.pc e;refine aY (A.ld (shf:=fE) (eZ d) rfl ?_);refine aY (A.ld (shf:=an) d.code rfl ?_);refine Dc (C6 (m.q9 P.le hp f) (by rw [u];exact t.told hp) λH O y n=> ?_);refine aY (wO (P.grow y) hp λC g=>b C ?_);rw [gy,B8,n,e,(m.code p hp).2] at g;exact g
  ·rw [if_neg B];rw [if_neg B] at b;cases G with
   | true=>rw [if_pos rfl];rw [if_pos rfl] at b;have e:gM (eZ d)=(s.proc p).core:=f.2.2.2.2.1;have u:(eZ d).PC=(s.proc p).pc:=congrArg Core.pc e;refine aY (j.ld (shf:=fE) (eZ d) rfl ?_);refine aY (j.ld (shf:=an) d.code rfl ?_);refine Dc (C6 (m.q9 h.le hp f) (by rw [u];exact t.told hp) λH O y n=> ?_);refine aY (wO (h.grow y) hp λC g=>b C ?_);rw [n,e,(m.code p hp).2] at g;exact g
   | false=>rw [if_neg (by decide)];rw [if_neg (by decide)] at b;exact aY (j.st (pa d 1) (by show 3+1<=15;omega) rfl λN A=>b N (F _ _ _ (f.state 1) rfl rfl A))
 ·rw [if_pos (by decide)];rw [Y] at b;dsimp only at b;have h:=put _ _ _ E;have R:(s.proc p).ag.getD i ⟨[],[],0,0⟩=l:=nD r;rw [R] at b;have S:({s.proc p with ag:=(s.proc p).ag.set i (eB l),af:=((i+1:Nat):Int)%((s.proc p).ag.length:Int)}:ak)={bL (s.proc p) i eB with af:=((i+1:Nat):Int)%((s.proc p).ag.length:Int)}:=by rw [yJ r]
  rw [S] at h;obtain ⟨W,d,q2,l2,f,j,F⟩:=h.dN hp;rw [gy] at f;have e:gM (eZ d)=(s.proc p).core:=f.2.2.2.2.1;have u:(eZ d).PC=(s.proc p).pc:=congrArg Core.pc e;refine aY (j.ld (shf:=fE) (eZ d) rfl ?_);refine aY (j.ld (shf:=an) d.code rfl ?_);refine Dc (C6 (m.q9 h.le hp f) (by rw [u];exact t.told hp) λH O y n=> ?_);refine aY (wO (h.grow y) hp λC g=> ?_);rw [gy,B8,n,e,(m.code p hp).2] at g;have Z:l.values.headD 0=v:=by rw [hv];rfl
  rw [Z] at b;cases hw:l.waiters with
  | nil=>grind
  | cons w ws=>
   rw [if_pos (by simp)];rw [hw] at b;dsimp only at b;have b0:=(sp.eJ l (List.mem_of_getElem? r)).lz w (by grind);have D:w.proc.toNat<nQ K.c:=by omega
   have V:((w.proc.toNat:Nat):Int)=w.proc:=by omega
   obtain ⟨I,J⟩:=m.ptr g D;rw [V] at I J;have U:(oH w).dB=w.proc:=rfl;rw [U];refine aY (g.ft.ld (shf:=an) K.x.procs rfl ⟨I,some (K.p w.proc.toNat),J,?_⟩);refine C1 (EL m g D ?_ b);by_cases L:w.proc.toNat=p
   ·rw [L,gy];show 0<=(gW _ _ _ _).pc/\(gW _ _ _ _).pc<_;rw [acf];have:=(t.proc p hp).pc;show 0<=(s.proc p).pc+1/\(s.proc p).pc+1<_;omega
   ·rw [iW L];exact t.told D
end
section
variable {h0 h1 k:Hp} {K:MK} {pm:Addr} {s:MS} {g:Nat->Nat->Int}
theorem Has.aside {A:eh} {f:Type} {sz:Nat} {enc:f->List Value} {l:Sl} {e:List f} (o:Has h0 (A.star (eu sz enc l e)) k) (i:∀x,(enc x).length=sz):∃h1,h0<=h1/\Has h1 A k/\Rw h1 sz enc l e:=by obtain ⟨h1,a,b,⟨h,c,d⟩,_⟩:=o.fst;exact ⟨h1,a,b,Has.jb (h0:=h0) ⟨a,h,c,d⟩ i⟩
theorem FD {i:Nat}:s.dz i (s.part i)=s:=by unfold MS.dz;rw [yR]
theorem Has.rn {i:Nat} (o:Has h0 (aK K pm s g) k) (m:i<nP K.c):∃h1 x lp d,h0<=h1/\mX K i x lp d (s.part i)/\Has h0 (dR xd (K.q i) x) k/\Has h1 (nk lp (s.part i).aC (s.part i).au) k/\
  ∀os b a,Has h1 (nk lp os b) a->Has h0 (aK K pm (s.dz i {s.part i with aC:=os,au:=b}) g) a:=by
 obtain ⟨h1,x,lp,d,f,e,h,put⟩:=o.ru m;obtain ⟨y,n,t,v⟩:=h.f3;obtain ⟨j,p,u,_,w⟩:=t.fst;refine ⟨j,x,lp,d,Hp.le_trans f (Hp.le_trans n p),e,(Has.left h).mono f,u,λos b a r=> ?_⟩;have l:=put x {s.part i with aC:=os,au:=b} (g i) a e (v _ _ (w _ _ r))
 rwa [yR] at l
theorem Has.jj {i:Nat} (o:Has h0 (aK K pm s g) k) (m:i<nP K.c):∃h1 x lp a,h0<=h1/\mX K i x lp a (s.part i)/\Has h0 (dR xd (K.q i) x) k/\Has h1 (te a (g i) (2*nQ K.c)) k/\
  ∀d b,Has h1 (te a d (2*nQ K.c)) b->Has h0 (aK K pm s (cN g i d)) b:=by
 obtain ⟨h1,x,lp,a,f,e,h,put⟩:=o.ru m;obtain ⟨y,n,t,v⟩:=h.f3;obtain ⟨j,p,u,_,w⟩:=t.snd;refine ⟨j,x,lp,a,Hp.le_trans f (Hp.le_trans n p),e,(Has.left h).mono f,u,λd b r=> ?_⟩;have l:=put x (s.part i) d b e (v _ _ (w _ _ r))
 rwa [FD] at l
theorem Has.Hk {i:Nat} (o:Has h0 (aK K pm s g) k) (f:i<nP K.c):∃h1 x lp a,h0<=h1/\mX K i x lp a (s.part i)/\Has h0 (dR xd (K.q i) x) k/\Has h1 (eu 3 GX x.log (s.part i).log) k/\Has h0 (pR K i x lp a (s.part i) (g i)) k/\
  True:=by
 obtain ⟨h1,x,lp,a,b,h,d,put⟩:=o.ru f;obtain ⟨e,j,l,m⟩:=d.f2;exact ⟨e,x,lp,a,Hp.le_trans b j,h,(Has.left d).mono b,l,d.mono b,trivial⟩
theorem FE :∀(l:List Int) (s:MS) (q:Nat),(s.proc q).pc<=((l.foldl gY s).proc q).pc/\((l.foldl gY s).proc q).pc<=(s.proc q).pc+l.length
 | [],s,q=>⟨Int.le_refl _,by simp⟩
 | a::l,s,q=>by
  have h:=FE l (gY s a) q;have b:(s.proc q).pc<=((gY s a).proc q).pc/\((gY s a).proc q).pc<=(s.proc q).pc+1:=by
   unfold gY;split
   ·unfold qa;by_cases e:q=a.toNat
    ·subst e;rw [gy];show _<=(s.proc _).pc+1/\(s.proc _).pc+1<=_;omega
    ·rw [iW e];omega
   ·omega
  grind
theorem ach {l:List eT} {k:Core} {v:Int}:(kV l k v).pc=k.pc+1:=by unfold kV;cases ie l k.pc<;>rfl
theorem Kz {c:aW} {v:Int}:∀(l:List mL) (s:MS) (q:Nat),(s.proc q).pc<=((l.foldl (λs w=>cx c s w.proc.toNat v) s).proc q).pc/\((l.foldl (λs w=>cx c s w.proc.toNat v) s).proc q).pc<=(s.proc q).pc+l.length
 | [],s,q=>⟨Int.le_refl _,by simp⟩
 | a::l,s,q=>by
  have h:=Kz (c:=c) (v:=v) l (cx c s a.proc.toNat v) q;have b:(s.proc q).pc<=((cx c s a.proc.toNat v).proc q).pc/\((cx c s a.proc.toNat v).proc q).pc<=(s.proc q).pc+1:=by
   unfold cx;by_cases e:q=a.proc.toNat
   ·subst e;rw [gy];show _<=(kV _ _ _).pc/\(kV _ _ _).pc<=_;rw [ach];show _<=(s.proc _).pc+1/\(s.proc _).pc+1<=_;omega
   ·rw [iW e];omega
  grind
theorem KB {p:Int}:∀ {os:List Int} {qs:List (List Int)},(∀a∈(jc p os qs).2.2,a= -1\/∃q∈qs,a∈q)/\(jc p os qs).2.2.length<=qs.length
 | [],qs=>by cases qs<;>simp [jc]
 | o::os,[]=>by simp [jc]
 | o::os,q::qs=>by
  obtain ⟨h1,h⟩:=KB (p:=p) (os:=os) (qs:=qs);have d:∀a∈(jc p os qs).2.2,a= -1\/∃c∈q::qs,a∈c:=λa ha=>(h1 a ha).imp id λ⟨c,e,f⟩=>⟨c,List.mem_cons_of_mem _ e,f⟩;unfold jc;dsimp only;split
  ·cases q with
   | nil=>
    refine ⟨λa ha=> ?_,by simp;omega⟩;rcases List.mem_cons.1 ha with rfl | ha
    ·exact .inl rfl
    ·exact d a ha
   | cons b r=>
    refine ⟨λa ha=> ?_,by simp;omega⟩;rcases List.mem_cons.1 ha with rfl | ha
    ·exact .inr ⟨a::r,List.mem_cons_self ..,List.mem_cons_self ..⟩
    ·exact d a ha
  grind
theorem Lh {c:Type} {f:c->Bool}:∀ {l:List c} {a:c},a∈iD f l->a∈l
 | [],_,h=>by cases h
 | b::l,a,h=>by
  unfold iD at h;split at h
  ·grind
  ·rcases List.mem_cons.1 h with rfl | h
   ·simp
   ·exact List.mem_cons_of_mem _ (Lh h)
theorem TZ {p:Int} {l:List Nat} {q:Nat} (h:q∉l):(mV p s l).aO q (ni p ((mV p s l).proc q))=mV p s (l++ [q]):=by unfold mV MS.aO;congr 1;funext r;unfold cN;grind
end
structure cL (c:aW) (V:Nat->Bool) (s s':MS):Prop where
 tick:s.tick=s'.tick
 part:∀i,V i=true->s.part i=s'.part i
 proc:∀p,V (aB c p)=true->s.proc p=s'.proc p
structure Twin (V:Nat->Bool) (fl:Nat->Nat->Bool) (A B:aW):Prop where
 nP:nP B=nP A
 nQ:nQ B=nQ A
 w9:aB B=aB A
 code:∀p,V (aB A p)=true->gG A p=gG B p
 table:B.table=A.table
 fuel:B.fuel=A.fuel
 lane:B.lane=A.lane
 ai:B.ai=A.ai
 log:B.log=A.log
 up:∀i j,fl i j=true->V j=true->V i=true
section
variable {A B:aW} {V:Nat->Bool} {fl:Nat->Nat->Bool} {s s' s1:MS} {p:Nat} {D:Int->Int->Int->Int}
theorem cL.refl :cL A V s s:=⟨rfl,λ_ _=>rfl,λ_ _=>rfl⟩
theorem cL.symm (o:cL A V s s'):cL A V s' s:=⟨o.tick.symm,λi h=>(o.part i h).symm,λp h=>(o.proc p h).symm⟩
theorem cL.trans (o:cL A V s s') (a:cL A V s' s1):cL A V s s1:=⟨o.tick.trans a.tick,λi h=>(o.part i h).trans (a.part i h),λp h=>(o.proc p h).trans (a.proc p h)⟩
theorem cL.aO (o:cL A V s s') {x x':ak} (h:V (aB A p)=true->x=x'):cL A V (s.aO p x) (s'.aO p x'):=
 ⟨o.tick,o.part,λq a=>by
  show cN s.proc p x q=cN s'.proc p x' q;by_cases e:q=p
  ·subst e;rw [kg,kg];exact h a
  ·rw [kp e,kp e];exact o.proc q a⟩
theorem cL.dz (o:cL A V s s') {i:Nat} {x x':dt} (h:V i=true->x=x'):cL A V (s.dz i x) (s'.dz i x'):=
 ⟨o.tick,λj a=>by
  show cN s.part i x j=cN s'.part i x' j;by_cases e:j=i
  ·subst e;rw [kg,kg];exact h a
  ·rw [kp e,kp e];exact o.part j a,o.proc⟩
theorem cL.iM (o:cL A V s s') (h:V (aB A p)=false) {x:ak}:cL A V s (s'.aO p x):=
 ⟨o.tick,o.part,λq a=>by
  show s.proc q=cN s'.proc p x q;by_cases e:q=p
  ·subst e;rw [h] at a;cases a
  ·rw [kp e];exact o.proc q a⟩
theorem cL.q8 (o:cL A V s s') {i:Nat} (h:V i=false) {x:dt}:cL A V s (s'.dz i x):=
 ⟨o.tick,λj a=>by
  show s.part j=cN s'.part i x j;by_cases e:j=i
  ·subst e;rw [h] at a;cases a
  ·rw [kp e];exact o.part j a,o.proc⟩
theorem cL.told (o:cL A V s s') (a:Twin V fl A B) {v:Int}:cL A V (cx A s p v) (cx B s' p v):=
 o.aO λh=>by rw [o.proc p h,a.code p h]
theorem cL.given (o:cL A V s s') {a:Int}:cL A V (gY s a) (gY s' a):=by
 unfold gY;split
 ·exact o.aO λh=>by rw [o.proc _ h]
 ·exact o
theorem cL.mQ :∀ {l:List Int} {s s':MS},cL A V s s'->cL A V (l.foldl gY s) (l.foldl gY s')
 | [],_,_,o=>o
 | a::l,s,s',o=>cL.mQ (l:=l) (s:=gY s a) (s':=gY s' a) (cL.given o)
theorem cL.rI (a:Twin V fl A B) {v:Int}:∀ {l:List mL} {s s':MS},cL A V s s'->cL A V (l.foldl (λs w=>cx A s w.proc.toNat v) s) (l.foldl (λs w=>cx B s w.proc.toNat v) s')
 | [],_,_,o=>o
 | w::l,s,s',o=>cL.rI (l:=l) (s:=cx A s w.proc.toNat v) (s':=cx B s' w.proc.toNat v) a (cL.told o a)
theorem Twin.full (a:Twin V fl A B):fk B=fk A:=by funext x i;unfold fk;rw [a.lane]
theorem cL.send (o:cL A V s s') (a:Twin V fl A B) (hp:V (aB A p)=true) {to v:Int}:cL A V (jk A fl s p to v) (jk B fl s' p to v):=by
 unfold jk;rw [a.nQ,a.w9,a.full];by_cases d:to<0\/(nQ A:Int)<=to
 ·rw [if_pos d,if_pos d];exact o.told a
 rw [if_neg d,if_neg d];by_cases f:fl (aB A p) (aB A to.toNat)=false
 ·rw [if_pos f,if_pos f];exact (o.dz λh=>by rw [o.part _ h]).told a
 rw [if_neg f,if_neg f];by_cases b:aB A p=aB A to.toNat
 ·have j:V (aB A to.toNat)=true:=by rw [<-b];exact hp
  have e:=o.proc _ j;rw [if_pos b,if_pos b,e];split
  ·exact o.told a
  ·split
   ·have i:=o.aO (p:=to.toNat) (x:=bL (s'.proc to.toNat) (aB A p) (il p v)) (x':=bL (s'.proc to.toNat) (aB A p) (il p v)) λ_=>rfl;exact i.aO λh=>by rw [i.proc p h]
   ·exact (o.aO λ_=>rfl).told a
 ·rw [if_neg b,if_neg b];have key:∀(s:MS),(if jX (s.proc to.toNat)=false\/fk A (s.proc to.toNat) (aB A p)=true then bL (s.proc to.toNat) (aB A p) jN else eC (bL (s.proc to.toNat) (aB A p) (sH v)))=(if jX (s.proc to.toNat)=false\/fk A (s.proc to.toNat) (aB A p)=true then bL (s.proc to.toNat) (aB A p) jN else eC (bL (s.proc to.toNat) (aB A p) (sH v))):=λ_=>rfl;have g:∀(c:aW) (s:MS),(if jX (s.proc to.toNat)=false\/fk A (s.proc to.toNat) (aB A p)=true then cx c (s.aO to.toNat (bL (s.proc to.toNat) (aB A p) jN)) p 0 else cx c (s.aO to.toNat (eC (bL (s.proc to.toNat) (aB A p) (sH v)))) p 0)=
    cx c (s.aO to.toNat (if jX (s.proc to.toNat)=false\/fk A (s.proc to.toNat) (aB A p)=true then bL (s.proc to.toNat) (aB A p) jN else eC (bL (s.proc to.toNat) (aB A p) (sH v)))) p 0:=λc s=>by
   split<;>rfl
  rw [g,g];exact (o.aO λh=>by rw [o.proc _ h]).told a
theorem cL.take (o:cL A V s s') (a:Twin V fl A B) (hp:V (aB A p)=true) {b:Bool}:cL A V (iS A s p b) (iS B s' p b):=by
 unfold iS;rw [o.proc p hp,a.code p hp];dsimp only;split
 ·split
  ·exact o.aO λ_=>rfl
  ·exact (o.aO λ_=>rfl).told a
 ·split
  ·exact o.aO λ_=>rfl
  ·split
   ·exact o.aO λ_=>rfl
   ·exact o.aO λ_=>rfl
theorem cL.out (o:cL A V s s') (a:Twin V fl A B) (hp:V (aB A p)=true) {v:Int}:cL A V (qC A s p v) (qC B s' p v):=by unfold qC;rw [a.w9,a.log,o.part _ hp,o.tick];exact o.dz λ_=>rfl
theorem cL.lock (o:cL A V s s') (b:Twin V fl A B) (hp:V (aB A p)=true) {n:Int}:cL A V (iO A s p n) (iO B s' p n):=by
 unfold iO;rw [b.w9,o.part _ hp,o.proc p hp];dsimp only;split
 ·have a:=o.dz (i:=aB A p) (x:={s'.part (aB A p) with aC:=(s'.part (aB A p)).aC.set n.toNat p}) λ_=>rfl;exact a.aO λh=>by rw [a.proc p h]
 ·exact (o.dz λ_=>rfl).aO λ_=>rfl
theorem cL.unlock (o:cL A V s s') (a:Twin V fl A B) (hp:V (aB A p)=true) {n:Int}:cL A V (tX A s p n) (tX B s' p n):=by
 unfold tX;rw [a.w9,o.part _ hp];dsimp only;split
 ·split
  ·exact o.dz λ_=>rfl
  ·exact (o.dz λ_=>rfl).given
 ·exact o
theorem cL.ends (o:cL A V s s') (f:Twin V fl A B) (hp:V (aB A p)=true) {st:Int}:cL A V (lS A s p st) (lS B s' p st):=by
 unfold lS;rw [f.w9,f.nQ];dsimp only;have a:cL A V (s.aO p {s.proc p with state:=st,bN:=false}) (s'.aO p {s'.proc p with state:=st,bN:=false}):=o.aO λh=>by rw [o.proc p h]
 generalize s.aO p {s.proc p with state:=st,bN:=false}=s1 at a;generalize s'.aO p {s'.proc p with state:=st,bN:=false}=t1 at a;have k:cL A V ⟨s1.tick,s1.part,λq=>if q<nQ A/\aB A q=aB A p then ni p (s1.proc q) else s1.proc q⟩ ⟨t1.tick,t1.part,λq=>if q<nQ A/\aB A q=aB A p then ni p (t1.proc q) else t1.proc q⟩:=
  ⟨a.tick,a.part,λq j=>by dsimp only;rw [a.proc q j]⟩
 have g:=a.part _ hp;rw [g];have b:=(k.dz (i:=aB A p) (x:=(pH (↑p) (t1.part (aB A p))).1) λ_=>rfl).mQ (l:=(pH (↑p) (t1.part (aB A p))).2);generalize List.foldl gY (MS.dz ⟨s1.tick,s1.part,λq=>if q<nQ A/\aB A q=aB A p then ni p (s1.proc q) else s1.proc q⟩ (aB A p) (pH (↑p) (t1.part (aB A p))).1) (pH (↑p) (t1.part (aB A p))).2=d at b;generalize List.foldl gY (MS.dz ⟨t1.tick,t1.part,λq=>if q<nQ A/\aB A q=aB A p then ni p (t1.proc q) else t1.proc q⟩ (aB A p) (pH (↑p) (t1.part (aB A p))).1) (pH (↑p) (t1.part (aB A p))).2=e at b;have c:cL A V (d.aO p {d.proc p with timer:=0,cQ:=0}) (e.aO p {e.proc p with timer:=0,cQ:=0}):=b.aO λh=>by rw [b.proc p h]
 generalize d.aO p {d.proc p with timer:=0,cQ:=0}=m at c;generalize e.aO p {e.proc p with timer:=0,cQ:=0}=n at c;rw [c.proc p hp];exact cL.rI f (c.aO λ_=>rfl)
theorem cL.OT (o:cL A V s s') (b:Twin V fl A B) (hp:V (aB A p)=true):cL A V (tx A D fl s p) (tx B D fl s' p):=by
 unfold tx;rw [o.proc p hp,b.code p hp,o.tick];dsimp only;have a:=o.aO (p:=p) (x:=(s'.proc p).put (gV D (gG B p) (s'.proc p).core s'.tick ↑p).1) λ_=>rfl;generalize (gV D (gG B p) (s'.proc p).core s'.tick ↑p).2=w;generalize s.aO p ((s'.proc p).put (gV D (gG B p) (s'.proc p).core s'.tick ↑p).1)=s1 at a;generalize s'.aO p ((s'.proc p).put (gV D (gG B p) (s'.proc p).core s'.tick ↑p).1)=t1 at a;split
 ·exact a.ends b hp
 split
 ·exact a.send b hp
 split
 ·exact a.take b hp
 split
 ·exact a.take b hp
 split
 ·exact a.aO λh=>by rw [a.proc p h]
 split
 ·exact a.aO λh=>by rw [a.proc p h]
 split
 ·exact a.lock b hp
 split
 ·exact a.unlock b hp
 split
 ·exact a.out b hp
 exact a
structure uh (c:aW) (s:MS) (p:Nat):Prop where
 eJ:∀l∈(s.proc p).ag,∀w∈l.waiters,aB c w.proc.toNat=aB c p
 iZ:∀q∈(s.part (aB c p)).au,∀z∈q,aB c z.toNat=aB c p
theorem Good.Hj {X Z:Nat->Prop} {T:Int} (g:Good A fl s X Z T) (hp:p<nQ A) (d:aB A p<nP A):uh A s p:=by
 refine ⟨λl j w a=> ?_,λq m z n=> ?_⟩
 ·obtain ⟨i,f⟩:=List.mem_iff_getElem?.1 j;obtain ⟨_,b,c⟩:=g.eJ p hp i l f;have e:=(b (λe=>by rw [e] at a;cases a)).1;have:=(c w a).2.2.1;rw [this,e]
 ·obtain ⟨k,h⟩:=List.mem_iff_getElem?.1 m;exact ((g.iZ _ d k q h).2.1 z n).2.2.1
theorem cL.nb (o:cL A V s s') (h:V (aB A p)=false) {c:aW} {v:Int}:cL A V s (cx c s' p v):=o.iM h
theorem cL.Cv (o:cL A V s s') {a:Int} (h:V (aB A a.toNat)=false):cL A V s (gY s' a):=by
 unfold gY;split
 ·exact o.iM h
 ·exact o
theorem cL.tC :∀ {l:List Int} {s s':MS},cL A V s s'->(∀a∈l,0<=a->V (aB A a.toNat)=false)->cL A V s (l.foldl gY s')
 | [],_,_,o,_=>o
 | a::l,s,s',o,h=>by
  refine cL.tC (l:=l) (s':=gY s' a) ?_ λb hb=>h b (List.mem_cons_of_mem _ hb);unfold gY;split
  ·exact o.iM (h a (List.mem_cons_self ..) (by assumption))
  ·exact o
theorem cL.vz {c:aW} {v:Int}:∀ {l:List mL} {s s':MS},cL A V s s'->(∀w∈l,V (aB A w.proc.toNat)=false)->cL A V s (l.foldl (λs w=>cx c s w.proc.toNat v) s')
 | [],_,_,o,_=>o
 | w::l,_,s',o,h=>cL.vz (l:=l) (s':=cx c s' w.proc.toNat v) (o.nb (h w (List.mem_cons_self ..))) λb hb=>h b (List.mem_cons_of_mem _ hb)
theorem yd {p:Int}:∀ {os:List Int} {e:List (List Int)} {a:Int},a∈(jc p os e).2.2->a= -1\/∃q∈e,a∈q
 | [],_,_,h=>by unfold jc at h;cases h
 | _::_,[],_,h=>by unfold jc at h;cases h
 | o::os,q::e,a,h=>by
  unfold jc at h;dsimp only at h;split at h
  ·cases q with
   | nil=>
    rcases List.mem_cons.1 h with h | h
    ·exact .inl h
    ·exact (yd h).imp id λ⟨q,d,c⟩=>⟨q,List.mem_cons_of_mem _ d,c⟩
   | cons b q=>
    rcases List.mem_cons.1 h with h | h
    ·exact .inr ⟨_,List.mem_cons_self ..,by rw [h];exact List.mem_cons_self ..⟩
    ·exact (yd h).imp id λ⟨q,d,c⟩=>⟨q,List.mem_cons_of_mem _ d,c⟩
  ·exact (yd h).imp id λ⟨q,d,c⟩=>⟨q,List.mem_cons_of_mem _ d,c⟩
theorem cL.zM (w:uh A s p) (hp:V (aB A p)=false) {st:Int}:cL A V s (lS A s p st):=by
 unfold lS;dsimp only;have i:cL A V s (s.aO p {s.proc p with state:=st,bN:=false}):=cL.refl.iM hp;have j:((s.aO p {s.proc p with state:=st,bN:=false}).proc p).ag=(s.proc p).ag:=by show (cN (α:=ak) _ p _ p).ag=_;rw [kg]
 have k:(s.aO p {s.proc p with state:=st,bN:=false}).part=s.part:=rfl;generalize s.aO p {s.proc p with state:=st,bN:=false}=s1 at i j k;have C:cL A V s ⟨s1.tick,s1.part,λq=>if q<nQ A/\aB A q=aB A p then ni p (s1.proc q) else s1.proc q⟩:=⟨i.tick,i.part,λq f=>by
  dsimp only;rw [if_neg λh=>by rw [h.2,hp] at f;cases f];exact i.proc q f⟩
 have u:∀l∈((if p<nQ A/\aB A p=aB A p then ni p (s1.proc p) else s1.proc p):ak).ag,∀z∈l.waiters,V (aB A z.proc.toNat)=false:=by
  intro l e z d;have:∃g∈(s.proc p).ag,z∈g.waiters:=by
   split at e
   ·unfold ni at e;obtain ⟨g,b,rfl⟩:=List.mem_map.1 e;rw [j] at b;exact ⟨g,b,Lh d⟩
   ·rw [j] at e;exact ⟨l,e,d⟩
  obtain ⟨g,b,n⟩:=this;rw [w.eJ g b z n];exact hp
 rw [k];have o:=(C.q8 hp (x:=(pH (↑p) (s.part (aB A p))).1)).tC (l:=(pH (↑p) (s.part (aB A p))).2) λa v F=>by
  rcases yd v with h | ⟨q,f,d⟩
  ·omega
  ·obtain ⟨E,y,rfl⟩:=List.mem_map.1 f;rw [w.iZ E y a (Lh d)];exact hp
 have m:((List.foldl gY (MS.dz ⟨s1.tick,s.part,λq=>if q<nQ A/\aB A q=aB A p then ni p (s1.proc q) else s1.proc q⟩ (aB A p) (pH (↑p) (s.part (aB A p))).1) (pH (↑p) (s.part (aB A p))).2).proc p).ag=((if p<nQ A/\aB A p=aB A p then ni p (s1.proc p) else s1.proc p):ak).ag:=(DR (q:=p)).1;rw [<-k] at o m ⊢;generalize List.foldl gY (MS.dz ⟨s1.tick,s1.part,λq=>if q<nQ A/\aB A q=aB A p then ni p (s1.proc q) else s1.proc q⟩ (aB A p) (pH (↑p) (s1.part (aB A p))).1) (pH (↑p) (s1.part (aB A p))).2=c at o m;have t:cL A V s (c.aO p {c.proc p with timer:=0,cQ:=0}):=o.iM hp;have r:((c.aO p {c.proc p with timer:=0,cQ:=0}).proc p).ag=(c.proc p).ag:=by show (cN (α:=ak) _ p _ p).ag=_;rw [kg]
 generalize c.aO p {c.proc p with timer:=0,cQ:=0}=G at t r;refine cL.vz (t.iM hp) λz d=> ?_;obtain ⟨l,b,n⟩:=List.mem_flatMap.1 d;rw [r,m] at b;exact u l b z n
theorem cL.G5 (up:∀i j,fl i j=true->V j=true->V i=true) (hp:V (aB A p)=false) {to v:Int}:cL A V s (jk A fl s p to v):=by
 unfold jk;have o:cL A V s s:=cL.refl;split
 ·exact o.nb hp
 split
 ·exact (o.q8 hp).nb hp
 rename_i b;have a:V (aB A to.toNat)=false:=Bool.eq_false_iff.2 λh=>by rw [up _ _ (Bool.not_eq_false _▸b) h] at hp;cases hp
 split
 ·split
  ·exact o.nb hp
  split
  ·exact (o.iM a).iM hp
  exact (o.iM a).nb hp
 ·split
  ·exact (o.iM a).nb hp
  ·exact (o.iM a).nb hp
theorem ZO {l:List bH} {i:Nat} {w:mL} (h:w∈(l.getD i ⟨[],[],0,0⟩).waiters):∃x∈l,w∈x.waiters:=by
 rw [List.getD_eq_getElem?_getD] at h;cases e:l[i]? with
 | none=>rw [e] at h;cases h
 | some x=>rw [e] at h;exact ⟨x,List.mem_of_getElem? e,h⟩
theorem cL.zN (w:uh A s p) (hp:V (aB A p)=false) {b:Bool}:cL A V s (iS A s p b):=by
 have o:cL A V s s:=cL.refl;unfold iS;dsimp only;split
 ·split
  ·exact o.iM hp
  ·rename_i d;refine (o.iM hp).nb ?_;obtain ⟨x,a,c⟩:=ZO (l:=(s.proc p).ag) (by rw [d];exact List.mem_cons_self ..);rw [w.eJ x a _ c];exact hp
 ·split
  ·exact o.iM hp
  ·split
   ·exact o.iM hp
   ·exact o.iM hp
theorem cL.xy (w:uh A s p) (hp:V (aB A p)=false) {n:Int}:cL A V s (tX A s p n):=by
 have o:cL A V s s:=cL.refl;unfold tX;dsimp only;split
 ·split
  ·exact o.q8 hp
  ·rename_i a r b;refine (o.q8 hp).Cv ?_;have:∃q∈(s.part (aB A p)).au,a∈q:=by
    rw [List.getD_eq_getElem?_getD] at b;cases e:(s.part (aB A p)).au[n.toNat]? with
    | none=>rw [e] at b;cases b
    | some q=>rw [e] at b;exact ⟨q,List.mem_of_getElem? e,by have:q=a::r:=b;rw [this];exact List.mem_cons_self ..⟩
   obtain ⟨q,c,d⟩:=this;rw [w.iZ q c a d];exact hp
 ·exact o
theorem cL.hDo (up:∀i j,fl i j=true->V j=true->V i=true) (w:uh A s p) (hp:V (aB A p)=false):cL A V s (tx A D fl s p):=by
 unfold tx;dsimp only;generalize (gV D (gG A p) (s.proc p).core s.tick ↑p).2=z;generalize (gV D (gG A p) (s.proc p).core s.tick ↑p).1=k;have a:cL A V s (s.aO p ((s.proc p).put k)):=cL.refl.iM hp;have b:uh A (s.aO p ((s.proc p).put k)) p:=⟨by
  show ∀l∈(cN (α:=ak) _ p _ p).ag,∀w∈l.waiters,_;rw [kg];exact w.eJ,w.iZ⟩
 generalize s.aO p ((s.proc p).put k)=s1 at a b;split
 ·exact a.trans (cL.zM b hp)
 split
 ·exact a.trans (cL.G5 up hp)
 split
 ·exact a.trans (cL.zN b hp)
 split
 ·exact a.trans (cL.zN b hp)
 split
 ·exact a.iM hp
 split
 ·exact a.iM hp
 split
 ·unfold iO;dsimp only;split
  ·exact (a.q8 hp).iM hp
  ·exact (a.q8 hp).iM hp
 split
 ·exact a.trans (cL.xy b hp)
 split
 ·exact a.q8 hp
 exact a
end
section
variable {A B:aW} {V:Nat->Bool} {fl:Nat->Nat->Bool} {s s':MS} {D:Int->Int->Int->Int} {T T':Int}
theorem Twin.ofs (a:Twin V fl A B) {i:Nat}:eK B i=eK A i:=by unfold eK;rw [a.nQ,a.w9]
theorem Fg {c:aW} {i a:Nat} (h:a<(eK c i).length):(eK c i).getD a 0<nQ c/\aB c ((eK c i).getD a 0)=i:=by
 have:(eK c i).getD a 0∈eK c i:=by rw [List.getD_eq_getElem?_getD,List.getElem?_eq_getElem h];exact List.getElem_mem h
 exact gv.1 this
theorem Np {c:Type} {p q:c->Bool}:∀ {l:List c},(∀a∈l,p a=q a)->l.find? p=l.find? q
 | [],_=>rfl
 | a::l,h=>by rw [List.find?_cons,List.find?_cons,h a (List.mem_cons_self ..),Np λb hb=>h b (List.mem_cons_of_mem _ hb)]
theorem cL.due (o:cL A V s s') (a:Twin V fl A B) {i:Nat}:cL A V (iu A s i) (iu B s' i):=
 ⟨o.tick,o.part,λq b=>by
  show (if q<nQ A/\aB A q=i then mw s.tick (s.proc q) else s.proc q)=(if q<nQ B/\aB B q=i then mw s'.tick (s'.proc q) else s'.proc q);rw [a.nQ,a.w9,o.tick,o.proc q b]⟩
theorem cL.pick (o:cL A V s s') (g:Twin V fl A B) {i:Nat} (b:V i=true):iP A s i=iP B s' i:=by
 unfold iP;rw [g.ofs,o.part i b];refine Np λa d=> ?_;obtain ⟨k,e,rfl⟩:=List.mem_map.1 d;have f:0<(eK A i).length:=by have:=List.mem_range.1 e;omega
 have c:=Fg (Nat.mod_lt ((s'.part i).af.toNat+k) f);rw [o.proc _ (by rw [c.2];exact b)]
theorem cL.turns (c:Twin V fl A B) {i:Nat} (b:V i=true):∀(n:Nat) {s s':MS},cL A V s s'->cL A V (me A D fl i n s) (me B D fl i n s')
 | 0,_,_,o=>o
 | n+1,s,s',o=>by
  unfold me;rw [o.pick c b];split
  ·exact o
  ·rename_i a h;refine cL.turns c b n ?_;rw [<-o.pick c b] at h;obtain ⟨d,e⟩:=Er h;unfold jU;rw [c.ofs,o.part i b];exact (o.dz λ_=>rfl).OT c (by rw [(Fg d).2];exact b)
theorem cL.sB (m:cH A) (up:∀i j,fl i j=true->V j=true->V i=true) {i:Nat} (e:i<nP A) (d:V i=false):∀(n:Nat) {s:MS},Good A fl s No No T->T=s.tick+1->cL A V s (me A D fl i n s)
 | 0,_,_,_=>cL.refl
 | n+1,s,g,f=>by
  unfold me;split
  ·exact cL.refl
  ·rename_i a h;obtain ⟨o,t⟩:=Er h;obtain ⟨r,c⟩:=Fg o;have l:=Good.CQ (D:=D) m g e f h;have k:(jU A D fl s i a).tick=s.tick:=by unfold jU;rw [DD];rfl
   refine cL.trans ?_ (cL.sB m up e d n l (by rw [k];exact f));unfold jU;have w:=g.Hj r (by rw [c];exact e);refine (cL.refl.q8 (s:=s) d).trans (cL.hDo up ⟨w.eJ,λq b z p=> ?_⟩ (by rw [c];exact d));refine w.iZ q ?_ z p;have b:q∈(cN s.part i _ (aB A ((eK A i).getD a 0))).au:=b;rw [c,kg] at b;rw [c];exact b
theorem cL.vU (o:cL A V s s') (a:Twin V fl A B) (c:cH A) (m:cH B) (g:Good A fl s No No s.tick) (f:Good B fl s' No No s'.tick):cL A V (jm A D fl s) (jm B D fl s')/\iU A s.tick=iU B s'.tick:=by
 have d:iU B s'.tick=iU A s.tick:=by unfold iU;rw [a.table,o.tick]
 refine ⟨?_,d.symm⟩;unfold jm;rw [d,a.fuel];dsimp only;have e:=o.due a (i:=iU A s.tick)
 suffices key:cL A V (me A D fl (iU A s.tick) A.fuel.toNat (iu A s (iU A s.tick))) (me B D fl (iU A s.tick) A.fuel.toNat (iu B s' (iU A s.tick))) from ⟨by show _+1=_+1;rw [key.tick],key.part,key.proc⟩
 cases hv:V (iU A s.tick) with
 | true=>exact cL.turns a hv _ e
 | false=>have h:=(g.rN (T':=s.tick+1) (by omega)).due (i:=iU A s.tick);have j:=(f.rN (T':=s'.tick+1) (by omega)).due (i:=iU A s.tick);have k:=cL.sB (D:=D) (V:=V) c a.up c.jP hv A.fuel.toNat h rfl;have b:=cL.sB (D:=D) (V:=V) m a.up (by rw [a.nP];exact c.jP) hv A.fuel.toNat j rfl;have l:cL A V (iu B s' (iU A s.tick)) (me B D fl (iU A s.tick) A.fuel.toNat (iu B s' (iU A s.tick))):=⟨b.tick,b.part,λp hp=>b.proc p (by rw [a.w9];exact hp)⟩;exact (k.symm.trans e).trans l
theorem I3 (o:cL A V s s') (a:Twin V fl A B) {p:Int} (hp:0<=p->p<(nQ A:Int)->V (aB A p.toNat)=true):qM A s p=qM B s' p:=by
 unfold qM;rw [a.nQ];split
 ·rfl
 ·rename_i h;rw [o.proc _ (hp (by omega) (by omega))]
theorem cL.inj (o:cL A V s s') (a:Twin V fl A B) {p v:Int} (hp:0<=p->p<(nQ A:Int)->V (aB A p.toNat)=true):cL A V (rW A s p v).1 (rW B s' p v).1:=by
 have e:=I3 o a hp;unfold rW;rw [e];split
 ·exact o
 ·rename_i h;have b:qM A s p=0:=by rw [e];exact Classical.not_not.1 h
  obtain ⟨t1,t2,_⟩:=Fw b;have hv:=hp t1 (by omega);rw [a.full,a.nP,o.proc _ hv];split
  ·exact o.aO λ_=>rfl
  ·exact o.aO λ_=>rfl
theorem cL.kill (o:cL A V s s') (a:Twin V fl A B) {p:Int} (hp:0<=p->p<(nQ A:Int)->V (aB A p.toNat)=true):cL A V (iN A s p).1 (iN B s' p).1:=by
 have e:=I3 o a hp;unfold iN;rw [e];split
 ·exact o
 ·rename_i h;have b:qM A s p=0:=by rw [e];exact Classical.not_not.1 h
  obtain ⟨t1,t2,_⟩:=Fw b;exact o.ends a (hp t1 (by omega))
theorem cL.O1 {p v:Int} (hp:0<=p->p<(nQ A:Int)->V (aB A p.toNat)=false):cL A V s (rW A s p v).1:=by
 unfold rW;split
 ·exact cL.refl
 ·rename_i h;obtain ⟨t1,t2,_⟩:=Fw (Classical.not_not.1 h);have hv:=hp t1 (by omega);split
  ·exact cL.refl.iM hv
  ·exact cL.refl.iM hv
theorem cL.G4 (m:cH A) {X Z:Nat->Prop} (g:Good A fl s X Z T) {p:Int} (hp:0<=p->p<(nQ A:Int)->V (aB A p.toNat)=false):cL A V s (iN A s p).1:=by
 unfold iN;split
 ·exact cL.refl
 ·rename_i h;obtain ⟨t1,t2,_⟩:=Fw (Classical.not_not.1 h);exact cL.zM (g.Hj t2 m.fD) (hp t1 (by omega))
theorem cL.first (a:Twin V fl A B):cL A V (pj A) (pj B):=by unfold pj;rw [a.ai,a.nP];exact cL.refl
end
section
variable {h0 h1 k:Hp} {K:MK} {pm:Addr} {s:MS} {a:Nat->Nat->Int}
theorem ze {p:Nat} {Q:Int->Hp->Prop} (hp:p<=1000) (b:Q ((2*p:Nat):Int) k):Oh prog (p:Int) Q k:=by unfold Oh;rw [wrap64 (by omega) (by omega),show (2:Int)*(p:Int)=((2*p:Nat):Int) by omega];exact b
theorem zf {p:Nat} {Q:Int->Hp->Prop} (hp:p<=1000) (b:Q ((2*p+1:Nat):Int) k):Oi prog (p:Int) Q k:=by unfold Oi;rw [wrap64 (show -9223372036854775808<=(2:Int)*p by omega) (by omega),wrap64 (by omega) (by omega),show (2:Int)*(p:Int)+1=((2*p+1:Nat):Int) by omega];exact b
theorem ZP {gs:List cY} {sl:Sl} {Q:Hp->Prop} {rest:Hp->Prop} (m:dC h0 K) (o:Has h0 (aK K pm s a) k) (r:Rw h0 2 eG sl gs) (B:gs.length<=1000) (u:∀g∈gs,0<=g.dB->g.dB<(nQ K.c:Int))
  (x:∀q,q<nQ K.c->0<=(s.proc q).pc/\(s.proc q).pc<=2000) (v:∀b,Has h0 (aK K pm ((gs.map (·.dB)).foldl gY s) a) b->rest b):
  aA (α1:=Int) (λl f i=>
 (if (decide (f<((sl.len:Nat):Int)))=true then
 ((br sl.base sl.len f)/\aQ none Ol i (sat sl.base 2 f) λA=>
 bV prog Dh [(.pointer (some pm)),(.int .i64 A.dB)] (λp=>
 l (yw (f+(1:Int))) p) i)
 else rest i)) (0:Int) k:=by
 have D:=r.1;refine aA.intro (λ(t:Int) b=>0<=t/\t<=(gs.length:Int)/\Has h0 (aK K pm (((gs.map (·.dB)).take t.toNat).foldl gY s) a) b) (λt _=>(gs.length-t).toNat) ⟨by omega,by omega,by simpa using o⟩ ?_;rintro t b ⟨z,t1,d⟩;by_cases h:t<(gs.length:Int)
 ·rw [if_pos (decide_eq_true (by omega))];refine Rs.get (sh:=Ol) (Rw.mono d.le r) (λ_=>rfl) (by omega) z h λ(g:cY) j=> ?_;have w:=List.mem_of_getElem? j;have hb:=FE ((gs.map (·.dB)).take t.toNat) s g.dB.toNat;have C:((gs.map (·.dB)).take t.toNat).length<=1000:=by rw [List.length_take,List.length_map];omega
  refine Se (FC m d (λh0=> ?_) λE y=> ?_)
  ·have:=u g w h0;have:=x g.dB.toNat (by omega);omega
  ·rw [wrap64 (by omega) (by omega)];refine ⟨⟨by omega,by omega,?_⟩,by omega⟩;have e:(t+1).toNat=t.toNat+1:=by omega
   have n:(gs.map (·.dB))[t.toNat]? =some g.dB:=by rw [List.getElem?_map,j];rfl
   rw [e,List.take_add_one,n];simpa using y
 ·rw [if_neg (λe=>h (by have:=of_decide_eq_true e;omega))];refine v b ?_;have e:t.toNat=gs.length:=by omega
  rw [e,List.take_of_length_le (by simp)] at d;exact d
theorem acj {b:List mL} {sl:Sl} {rest:Hp->Prop} (m:dC h0 K) (o:Has h0 (aK K pm s a) k) (r:Rw h0 2 eW sl b) (Q:b.length<=10000) (H:∀w∈b,0<=w.proc/\w.proc<(nQ K.c:Int))
  (J:∀q,q<nQ K.c->0<=(s.proc q).pc/\(s.proc q).pc<=4000) (I:∀d,Has h0 (aK K pm (b.foldl (λs w=>cx K.c s w.proc.toNat 2) s) a) d->rest d):
  aA (α1:=Int) (λD n j=>
 (if (decide (n<((sl.len:Nat):Int)))=true then
 ((br sl.base sl.len n)/\aQ none aH j (sat sl.base 2 n) λC=>
 ah none (some pm) λM=>
 aQ none an j (Addr.add M 11) λy=>
 ((br y.base y.len C.dB)/\aQ none aj j (sat y.base 1 C.dB) λP=>
 bV prog xb [(.pointer (some pm)),(.pointer P),(.int .i64 (2:Int))] (λG=>
 D (yw (n+(1:Int))) G) j))
 else rest j)) (0:Int) k:=by
 have N:Rs h0 aH 2 sl (b.map oH):=r.map (f:=oH) (enc:=λx=>bu (aH.enc x));have S:=r.1;refine aA.intro (λ(t:Int) d=>0<=t/\t<=(b.length:Int)/\Has h0 (aK K pm ((b.take t.toNat).foldl (λs w=>cx K.c s w.proc.toNat 2) s) a) d) (λt _=>(b.length-t).toNat) ⟨by omega,by omega,by simpa using o⟩ ?_;rintro t d ⟨O,t1,i⟩;by_cases h:t<(b.length:Int)
 ·rw [if_pos (decide_eq_true (by omega))];refine Rs.get (sh:=aH) (N.mono i.le) (λ_=>rfl) (by omega) O (by rw [List.length_map];exact h) λ(g:bB) l=> ?_;obtain ⟨w,B,rfl⟩:∃w,b[t.toNat]? =some w/\oH w=g:=by
   rw [List.getElem?_map] at l;cases e:b[t.toNat]? with
   | none=>rw [e] at l;cases l
   | some w=>rw [e] at l;exact ⟨w,rfl,Option.some.inj l⟩
  have T:=H w (List.mem_of_getElem? B);have hb:=Kz (c:=K.c) (v:=2) (b.take t.toNat) s w.proc.toNat;have R:(b.take t.toNat).length<=10000:=by rw [List.length_take];omega
  have u:w.proc.toNat<nQ K.c:=by omega
  have F:((w.proc.toNat:Nat):Int)=w.proc:=by omega
  obtain ⟨z,A⟩:=m.ptr i u;rw [F] at z A;have E:(oH w).dB=w.proc:=rfl;rw [E];refine aY (i.ft.ld (shf:=an) K.x.procs rfl ⟨z,some (K.p w.proc.toNat),A,?_⟩);refine C1 (EL m i u ?_ λU L=> ?_)
  ·have:=J w.proc.toNat u;omega
  ·rw [wrap64 (by omega) (by omega)];refine ⟨⟨by omega,by omega,?_⟩,by omega⟩;have e:(t+1).toNat=t.toNat+1:=by omega
   rw [e,List.take_add_one,B];simpa using L
 ·rw [if_neg (λe=>h (by have:=of_decide_eq_true e;omega))];refine I d ?_;have e:t.toNat=b.length:=by omega
  rw [e,List.take_of_length_le (by simp)] at i;exact i
end
section
variable {h0 h1 k:Hp} {K:MK} {pm:Addr} {s:MS} {d:Nat->Nat->Int}
theorem ZQ {p i:Nat} {rest:Hp->Prop} (m:dC h0 K) (D:cH K.c) (o:Has h0 (aK K pm s d) k) (sa:∀q,q<nQ K.c->qS K.c (s.proc q)) (hp:p<nQ K.c) (O:i<nP K.c)
  (P:∀j,Has h0 (aK K pm (mV p s (eK K.c i)) d) j->rest j):
  aA (α1:=Int) (λH u f=>
 (if (decide (u<(((K.own i).len:Nat):Int)))=true then
 ((br (K.own i).base (K.own i).len u)/\aQ none (ab .i64) f (sat (K.own i).base 1 u) λF=>
 ah none (some pm) λZ=>
 aQ none an f (Addr.add Z 11) λy=>
 ((br y.base y.len F)/\aQ none aj f (sat y.base 1 F) λx6=>
 ah none x6 λp7=>
 aQ none aj f (Addr.add p7 14) λx7=>
 ah none (some (K.p p)) λp8=>
 aQ none (ab .i64) f (Addr.add p8 0) λx8=>
 aa prog YE [(.pointer x7),(.int .i64 x8)] aR (λr M=>
 H (yw (u+(1:Int))) M) f))
 else rest f)) (0:Int) k:=by
 have r:=m.own i O;have R:=r.1;rw [List.length_map] at R;have a8:(eK K.c i).length<=1000:=by have h1:(eK K.c i).length<=(List.range (nQ K.c)).length:=List.length_filter_le ..;rw [List.length_range] at h1;have:=D.procs;omega
 refine aA.intro (λ(t:Int) j=>0<=t/\t<=((eK K.c i).length:Int)/\Has h0 (aK K pm (mV p s ((eK K.c i).take t.toNat)) d) j) (λt _=>((eK K.c i).length-t).toNat) ⟨by omega,by omega,by
  have e:mV p s ((eK K.c i).take (0:Int).toNat)=s:=by unfold mV;simp
  rw [e];exact o⟩ ?_
 rintro t j ⟨t0,t1,n⟩;by_cases h:t<((eK K.c i).length:Int)
 ·rw [if_pos (decide_eq_true (by omega))];refine Rs.get (sh:=ab .i64) (r.mono n.le) (λ_=>rfl) (by omega) t0 (by grind) λ(g:Int) a9=> ?_;obtain ⟨q,w,rfl⟩:∃q:Nat,(eK K.c i)[t.toNat]? =some q/\(q:Int)=g:=by grind
  have S:=List.mem_of_getElem? w;have v:=(gv.1 S).1;have C:q∉(eK K.c i).take t.toNat:=by
   intro b0;have b3:=H6 (c:=K.c) (i:=i);obtain ⟨b2,N⟩:=List.getElem?_eq_some_iff.1 w;have b5:(eK K.c i)=(eK K.c i).take t.toNat++q::(eK K.c i).drop (t.toNat+1):=by rw [<-N,List.getElem_cons_drop,List.take_append_drop]
   grind
  obtain ⟨J,L⟩:=m.ptr n v;refine aY (n.ft.ld (shf:=an) K.x.procs rfl ⟨J,some (K.p q),L,?_⟩);obtain ⟨h2,z,a,l2,T,Y,E,put⟩:=n.oh v;have eq:z.post=some a:=T.2.2.2.2.2.2;refine aY (Y.ld (shf:=aj) z.post rfl ?_);obtain ⟨f,G,ap,l3,U,op,_⟩:=n.dN hp;refine aY (op.ld (shf:=ab .i64) G.dP rfl ?_);have I:G.dP=(p:Int):=U.1;rw [eq,I];have B:(mV p s ((eK K.c i).take t.toNat)).proc q=s.proc q:=if_neg C;rw [B] at E put;have sq:=sa q v;have b4:=D.parts;have b1:=sq.len;refine Td (Zr E ⟨by omega,λl Q=>(sq.eJ l Q).waiters⟩ λb V W=> ?_);have X:=put _ _ _ W;rw [wrap64 (by omega) (by omega)];refine ⟨⟨by omega,by omega,?_⟩,by omega⟩;have e:(t+1).toNat=t.toNat+1:=by omega
  have A:=TZ (p:=p) (s:=s) C;rw [B] at A;rw [e,List.take_add_one,w];show Has h0 (aK K pm (mV p s ((eK K.c i).take t.toNat++ [q])) d) V;rw [<-A];exact X
 ·rw [if_neg (λe=>h (by have:=of_decide_eq_true e;omega))];refine P j ?_;have e:t.toNat=(eK K.c i).length:=by omega
  grind
theorem Lj {q:Nat}:∀ {l:List Int} {s:MS},((l.foldl gY s).proc q).ag=(s.proc q).ag
 | [],s=>rfl
 | a::l,s=>by
  rw [List.foldl_cons,Lj];unfold gY;split
  ·unfold qa;by_cases e:q=a.toNat
   ·subst e;rw [gy];rfl
   ·rw [iW e]
  ·rfl
theorem KR {a:Type} {f:a->Bool}:∀ {l:List a},(iD f l).length<=l.length
 | []=>Nat.le_refl _
 | b::l=>by have:=KR (f:=f) (l:=l);unfold iD;grind
def se (y:ak):ak:={y with timer:=0,cQ:=0}
def uJ (s:MS):MS:=⟨s.tick,s.part,λq=>se (s.proc q)⟩
theorem Gr :aK K pm s d=aK K pm (uJ s) d:=rfl
theorem Gw {p:Nat} {y:ak}:uJ (s.aO p y)=(uJ s).aO p (se y):=by unfold uJ MS.aO;dsimp only;rw [aaw]
theorem T0 {c:aW} {p:Nat} {v:Int}:uJ (cx c s p v)=cx c (uJ s) p v:=by unfold cx;rw [Gw];rfl
theorem Dz {c:aW} {v:Int}:∀ {l:List mL} {s:MS},uJ (l.foldl (λs w=>cx c s w.proc.toNat v) s)=l.foldl (λs w=>cx c s w.proc.toNat v) (uJ s)
 | [],s=>rfl
 | a::l,s=>by rw [List.foldl_cons,Dz,T0,List.foldl_cons]
theorem ZR {p:Nat} (o:Has h0 (aK K pm (((s.proc p).ag.flatMap (·.waiters)).foldl (λs w=>cx K.c s w.proc.toNat 2) (jD s p)) d) k):Has h0 (aK K pm (qW K.c (iv s p) p) d) k:=by
 have a:((iv s p).proc p).ag=(s.proc p).ag:=by unfold iv;rw [gy]
 have b:uJ (jD (iv s p) p)=uJ (jD s p):=by unfold jD iv;rw [gy,B8,Gw,Gw];rfl
 unfold qW;rw [a,Gr,Dz,b,<-Dz,<-Gr];exact o
def qX (d:Nat->Nat->Int) (i p:Nat):Nat->Nat->Int:=cN d i (cN (cN (d i) (2*p) 0) (2*p+1) 0)
theorem KC {p:Nat} {st:Int} {Q:Hp->Prop} (m:dC h0 K) (y:cH K.c) (o:Has h0 (aK K pm s d) k) (j:j5 K.c s) (hp:p<nQ K.c)
  (M:∀t,Has h0 (aK K pm (lS K.c s p st) (qX d (aB K.c p) p)) t->Q t):UP prog (some pm) (some (K.p p)) st Q k:=by
 unfold UP;rw [zn] at M;have r:aB K.c p<nP K.c:=y.fD;have i2:=y.procs;have i0:=y.parts;obtain ⟨h1,z,a,l1,T,oz,put⟩:=o.dN hp;refine aY (o.ft.ld (shf:=an) K.x.parts rfl ?_);refine aY (oz.ld (shf:=ab .i64) z.part rfl ?_);have ep:z.part=(aB K.c p:Int):=T.2.1;rw [ep];obtain ⟨g1,g2⟩:=m.uw o r;refine ⟨g1,some (K.q (aB K.c p)),g2,?_⟩;refine aY (oz.st (pa z st) (by show 3+1<=15;omega) rfl λk1 o1=> ?_);refine aY (o1.st (uN (pa z st) false) (by show 13+1<=15;omega) rfl λk2 o2=> ?_);have B:=put _ _ _ ((T.state st).bN false) rfl rfl o2;have B:Has h0 (aK K pm (gB s p st) d) k2:=B;obtain ⟨h2,x,lp,wp,l2,hx,ox,_⟩:=B.tJ r;refine aY (ox.ld (shf:=an) x.procs rfl ?_);have ex:x.procs=K.own (aB K.c p):=hx.1;rw [ex];have b3:∀q,q<nQ K.c->qS K.c ((gB s p st).proc q):=λq f=>by
  unfold gB;by_cases e:q=p
  ·subst e;rw [gy];have:=j.proc q f;exact ⟨this.pc,this.len,this.cur,this.eJ⟩
  ·rw [iW e];exact j.proc q f
 have c4:∀q,((ff K.c s p st).proc q).pc=(s.proc q).pc:=λq=>by
  have h1:((gB s p st).proc q).pc=(s.proc q).pc:=by
   unfold gB;by_cases e:q=p
   ·subst e;rw [gy]
   ·rw [iW e]
  show (if q∈eK K.c (aB K.c p) then ni p ((gB s p st).proc q) else (gB s p st).proc q).pc=_;split<;>exact h1
 refine ZQ m y B b3 hp r λk3 C=> ?_;have C:Has h0 (aK K pm (ff K.c s p st) d) k3:=C;obtain ⟨I,x4,d7,j0,l4,d0,e9,ol,b0⟩:=C.rn r;have el:x4.ai=some d7:=d0.2.2.2.2.1;obtain ⟨h5,z5,a5,l5,d5,f5,_⟩:=C.dN hp;refine aY (e9.ld (shf:=aj) x4.ai rfl ?_);refine aY (f5.ld (shf:=ab .i64) z5.dP rfl ?_);have ei:z5.dP=(p:Int):=d5.1;rw [el,ei];have v:=j.part _ r;have c0:(ff K.c s p st).part=s.part:=rfl;rw [c0] at ol b0;refine Tg (abW ol ⟨by have:=v.jW.1;omega,v.jW.2⟩ v.ij (by omega) λsl k4 gs c3 o5=> ?_);have o6:Has h0 ((aK K pm (qu K.c (ff K.c s p st) p) d).star (eu 2 eG sl gs)) k4:=o5.carry λt F=>b0 _ _ t F;obtain ⟨J,W,o7,hr⟩:=o6.aside (λ_=>rfl);have X:=m.mono W;have L:=KB (p:=(p:Int)) (os:=(s.part (aB K.c p)).aC) (qs:=(s.part (aB K.c p)).au.map (fz p));have g9:gs.length<=8:=by have:=L.2;rw [<-c3,List.length_map,List.length_map] at this;have:=v.jW.1;omega
 have c7:∀g∈gs,0<=g.dB->g.dB<(nQ K.c:Int):=by
  intro g hg h0;have:g.dB∈(jc (p:Int) (s.part (aB K.c p)).aC ((s.part (aB K.c p)).au.map (fz p))).2.2:=by grind
  rcases L.1 _ this with h | ⟨q,f,hm⟩
  ·omega
  ·obtain ⟨q',c5,rfl⟩:=List.mem_map.1 f;exact ((v.nd q' c5).2 _ (Lh hm)).2
 have S:∀q,((qu K.c (ff K.c s p st) p).proc q).pc=(s.proc q).pc:=c4;refine ZP (Q:=Q) X o7 hr (by omega) c7 (λq f=> ?_) λk5 G=> ?_
 ·rw [S];have:=(j.proc q f).pc;omega
 have H:(gs.map (·.dB)).foldl gY (qu K.c (ff K.c s p st) p)=jC K.c (ff K.c s p st) p:=by show _=(jc (p:Int) ((ff K.c s p st).part (aB K.c p)).aC (((ff K.c s p st).part (aB K.c p)).au.map (fz p))).2.2.foldl gY _;grind
 rw [H] at G;have i1:∀q,q<nQ K.c->0<=((jC K.c (ff K.c s p st) p).proc q).pc/\((jC K.c (ff K.c s p st) p).proc q).pc<=2000:=λq f=>by have:=FE (gs.map (·.dB)) (qu K.c (ff K.c s p st) p) q;rw [H,S,List.length_map] at this;have:=(j.proc q f).pc;omega
 have R:∀q,((jC K.c (ff K.c s p st) p).proc q).ag=((ff K.c s p st).proc q).ag:=λq=>by unfold jC;rw [Lj];rfl
 generalize i3:jC K.c (ff K.c s p st) p=b at*;obtain ⟨h7,x7,i6,g0,l7,d1,Z,ow,f8⟩:=G.jj r;have c1:x7.eD=some g0:=d1.2.2.2.2.2;obtain ⟨h8,z8,a8,l8,d6,f6,_⟩:=G.dN hp;refine aY (Z.ld (shf:=aj) x7.eD rfl ?_);refine aY (f6.ld (shf:=ab .i64) z8.dP rfl ?_);have b8:z8.dP=(p:Int):=d6.1;rw [b8];refine Jr (ze (by omega) ?_);refine ⟨⟨Z.fq (n:=1) rfl,trivial⟩,?_⟩;rw [c1];refine IP (EO ow (by omega) λb1 k6 o9=> ?_);have Y:=f8 _ _ o9;obtain ⟨h9,x9,i7,g3,l9,d2,a9,e7,f9⟩:=Y.jj r;have c2:x9.eD=some g3:=d2.2.2.2.2.2;obtain ⟨g5,b4,g4,i4,d3,f0,_⟩:=Y.dN hp;refine aY (a9.ld (shf:=aj) x9.eD rfl ?_);refine aY (f0.ld (shf:=ab .i64) b4.dP rfl ?_);have b7:b4.dP=(p:Int):=d3.1;rw [b7];refine Js (zf (by omega) ?_);refine ⟨⟨a9.fq (n:=1) rfl,trivial⟩,?_⟩;rw [c2];refine IP (EO e7 (by omega) λb2 k7 d8=> ?_);have A:=f9 _ _ d8;rw [kg,M3] at A;have A:Has J (aK K pm b (qX d (aB K.c p) p)) k7:=A;obtain ⟨g6,b5,b6,i5,d4,f4,e5,f7⟩:=A.oh hp;have b9:b5.post=some b6:=d4.2.2.2.2.2.2;refine aY (f4.ld (shf:=aj) b5.post rfl ?_);rw [b9];have i9:=b3 p hp;have P:∀l∈(b.proc p).ag,∃u∈(s.proc p).ag,l.waiters.length<=u.waiters.length/\∀w∈l.waiters,w∈u.waiters:=by
  intro l i;rw [R] at i;have D:((gB s p st).proc p).ag=(s.proc p).ag:=by unfold gB;rw [gy]
  have N:l∈(if p∈eK K.c (aB K.c p) then ni p ((gB s p st).proc p) else (gB s p st).proc p).ag:=i;rw [if_pos (gv.2 ⟨hp,rfl⟩)] at N;obtain ⟨l0,O,rfl⟩:=List.mem_map.1 N;rw [D] at O;exact ⟨l0,O,KR,λw E=>Lh E⟩
 have h4:(b.proc p).ag.length=nP K.c+1:=by
  rw [R];have D:((gB s p st).proc p).ag=(s.proc p).ag:=by unfold gB;rw [gy]
  show (if p∈eK K.c (aB K.c p) then ni p ((gB s p st).proc p) else (gB s p st).proc p).ag.length=_;rw [if_pos (gv.2 ⟨hp,rfl⟩)];show (List.map _ _).length=_;rw [List.length_map,D];exact (j.proc p hp).len
 have c8:∀l∈(b.proc p).ag,l.waiters.length<=100:=λl i=>by obtain ⟨u,h1,h2,_⟩:=P l i;have:=((j.proc p hp).eJ u h1).waiters;omega
 refine VD (ady e5 ⟨by omega,c8⟩ λsw k8 d9=> ?_);have e0:Has J ((aK K pm (jD b p) (qX d (aB K.c p) p)).star (eu 2 eW sw ((b.proc p).ag.flatMap (·.waiters)))) k8:=d9.carry λt F=>f7 _ _ t F;obtain ⟨g7,V,e2,c6⟩:=e0.aside (λ_=>rfl);have g8:((b.proc p).ag.flatMap (·.waiters)).length<=900:=by
  have key:∀(m:List bH),(∀l∈m,l.waiters.length<=100)->(m.flatMap (·.waiters)).length<=m.length*100:=λm=>by
   induction m with
   | nil=>intro _;simp
   | cons a m ih=>intro h;have:=ih λl i=>h l (List.mem_cons_of_mem _ i);have:=h a (List.mem_cons_self ..);simp only [List.flatMap_cons,List.length_append,List.length_cons];omega
  grind
 refine acj (X.mono V) e2 c6 (by omega) (λw E=> ?_) (λq f=> ?_) λU e3=>M U ?_
 ·obtain ⟨l,i,c9⟩:=List.mem_flatMap.1 E;obtain ⟨u,h1,_,I⟩:=P l i;exact ((j.proc p hp).eJ u h1).lz w (I w c9)
 ·have e6:((jD b p).proc q).pc=(b.proc q).pc:=by
   unfold jD;by_cases e:q=p
   ·subst e;rw [gy]
   ·rw [iW e]
  grind
 · -- timers are in the eD alone
  have e4:Has h0 (aK K pm (((b.proc p).ag.flatMap (·.waiters)).foldl (λs w=>cx K.c s w.proc.toNat 2) (jD b p)) (qX d (aB K.c p) p)) U:=e3.mono (Hp.le_trans W V);exact ZR e4
end
theorem Xr {b:Type} {l:List b} {n:Nat} {f:b->b} {a:b} (h:l[n]? =some a):l.modify n f=l.set n (f a):=by refine List.ext_getElem? λj=> ?_;grind
theorem LQ {a b:Int}:jh a b=qA a b:=by unfold jh qA;omega
theorem adP {a b:Int}:qd a b=vD a b:=by unfold qd vD;omega
section
variable {h0 h1 k:Hp} {K:MK} {pm:Addr} {s:MS} {d:Nat->Nat->Int}
def vV (d:Nat->Nat->Int) (i p:Nat) (t v:Int):Nat->Nat->Int:=cN d i (cN (d i) (2*p) (if 0<v then t+qA v 1099511627776 else 0))
theorem ZS {p:Nat} {v:Int} {Q:Hp->Prop} (m:dC h0 K) (w:cH K.c) (o:Has h0 (aK K pm s d) k) (hp:p<nQ K.c) (ht:0<=s.tick/\s.tick<=4611686018427387904)
  (j:∀u,Has h0 (aK K pm (s.aO p {s.proc p with bN:=false}) (vV d (aB K.c p) p s.tick v)) u->Q u):
 ah none (some (K.p p)) λp8=>
 da k (Addr.add p8 13) [(.bool false)] (λi=>
 ah none (some (K.q (aB K.c p))) λE=>
 aQ none aj i (Addr.add E 6) λe=>
 ah none (some (K.p p)) λZ=>
 aQ none (ab .i64) i (Addr.add Z 0) λx8=>
 aa prog xe [(.int .i64 x8)] (ab .i64) (λr2 l=>
 (((bG l (Addr.add E 6) [(.pointer e)])/\True)/\aa prog Di [(.pointer e),(.int .i64 r2)] aR (λr3 b=>
 (if (decide (v>(0:Int)))=true then
 ah none (some (K.q (aB K.c p))) λC=>
 aQ none aj b (Addr.add C 6) λf=>
 ah none (some (K.p p)) λa8=>
 aQ none (ab .i64) b (Addr.add a8 0) λb4=>
 ah none (some pm) λD=>
 aQ none (ab .i64) b (Addr.add D 9) λF=>
 aa prog xe [(.int .i64 b4)] (ab .i64) (λr4 g=>
 (((bG g (Addr.add C 6) [(.pointer f)])/\((bG g (Addr.add D 9) [(.int .i64 F)])/\(True/\True)))/\aa prog xc [(.pointer f),(.int .i64 r4),(.int .i64 (yw (F+(jh v (1099511627776:Int)))))] (ab .i64) (λr5 M=>
 Q M) g)) b
 else
 Q b)) l)) i):=by
  have r:aB K.c p<nP K.c:=w.fD;have b8:=w.procs;obtain ⟨h1,z,a,l1,t,X,put⟩:=o.dN hp;refine aY (X.st (uN z false) (by show 13+1<=15;omega) rfl λk2 y=> ?_);have T:=put _ _ _ (t.bN false) rfl rfl y;obtain ⟨g,e,c0,b2,l7,N,A,V,a9⟩:=T.jj r;have J:e.eD=some b2:=N.2.2.2.2.2;refine aY (A.ld (shf:=aj) e.eD rfl ?_);refine aY (y.ld (shf:=ab .i64) z.dP rfl ?_);have I:z.dP=(p:Int):=t.1;rw [I];refine Jr (ze (by omega) ?_);refine ⟨⟨A.fq (n:=1) rfl,trivial⟩,?_⟩;rw [J];refine IP (EO V (by omega) λb1 k6 U=> ?_);have h:=a9 _ _ U;unfold vV at j;by_cases hv:0<v
  ·rw [if_pos (decide_eq_true hv)];rw [if_pos hv] at j;obtain ⟨h9,f,c1,b3,l9,O,B,W,b0⟩:=h.jj r;have L:f.eD=some b3:=O.2.2.2.2.2;obtain ⟨b6,G,b5,b9,P,Y,_⟩:=h.dN hp;refine aY (B.ld (shf:=aj) f.eD rfl ?_);refine aY (Y.ld (shf:=ab .i64) G.dP rfl ?_);have H:G.dP=(p:Int):=P.1;rw [H];refine aY (h.ft.ld (shf:=ab .i64) s.tick rfl ?_);refine Jr (ze (by omega) ?_);refine ⟨⟨B.fq (n:=1) rfl,h.ft.fq (n:=1) rfl,trivial,trivial⟩,?_⟩;have b7:0<qA v 1099511627776/\qA v 1099511627776<=1099511627776:=by unfold qA;split<;>omega
   rw [L,LQ,wrap64 (by omega) (by omega)];refine VP (C5 W (by omega) (by omega) (by omega) λR S=>j R ?_);have x:=b0 _ _ S;rw [kg,M3,M3] at x;exact x
  grind
theorem ZT {p:Nat} {v:Int} {Q:Hp->Prop} (m:dC h0 K) (g:cH K.c) (o:Has h0 (aK K pm s d) k) (hp:p<nQ K.c) (X:0<=s.tick/\s.tick<=4611686018427387904)
  (A:∀f,Has h0 (aK K pm (s.aO p {s.proc p with state:=4}) (cN d (aB K.c p) (cN (d (aB K.c p)) (2*p+1) (s.tick+qA (vD v 1) 1099511627776)))) f->Q f):
 ah none (some (K.q (aB K.c p))) λj=>
 aQ none aj k (Addr.add j 6) λl=>
 ah none (some (K.p p)) λN=>
 aQ none (ab .i64) k (Addr.add N 0) λR=>
 ah none (some pm) λi=>
 aQ none (ab .i64) k (Addr.add i 9) λb=>
 aa prog xR [(.int .i64 R)] (ab .i64) (λr2 e=>
 (((bG e (Addr.add j 6) [(.pointer l)])/\((bG e (Addr.add i 9) [(.int .i64 b)])/\(True/\True)))/\aa prog xc [(.pointer l),(.int .i64 r2),(.int .i64 (yw (b+(jh (qd v (1:Int)) (1099511627776:Int)))))] (ab .i64) (λr3 w=>
 ah none (some (K.p p)) λM=>
 da w (Addr.add M 3) [(.int .i64 (4:Int))] (λx=>
 Q x)) e)) k:=by
  have y:aB K.c p<nP K.c:=g.fD;have W:=g.procs;obtain ⟨U,b,a9,P,l9,B,h,I,O⟩:=o.jj y;have u:b.eD=some P:=B.2.2.2.2.2;obtain ⟨T,r,S,a8,D,L,_⟩:=o.dN hp;refine aY (h.ld (shf:=aj) b.eD rfl ?_);refine aY (L.ld (shf:=ab .i64) r.dP rfl ?_);have t:r.dP=(p:Int):=D.1;rw [t];refine aY (o.ft.ld (shf:=ab .i64) s.tick rfl ?_);refine Js (zf (by omega) ?_);refine ⟨⟨h.fq (n:=1) rfl,o.ft.fq (n:=1) rfl,trivial,trivial⟩,?_⟩;have V:0<qA (vD v 1) 1099511627776/\qA (vD v 1) 1099511627776<=1099511627776:=by unfold qA vD;omega
  rw [u,LQ,adP,wrap64 (by omega) (by omega)];refine VP (C5 I (by omega) (by omega) (by omega) λY F=> ?_);have G:=O _ _ F;obtain ⟨h1,z,a,Z,C,J,put⟩:=G.dN hp;exact aY (J.st (pa z 4) (by show 3+1<=15;omega) rfl λE H=>A E (put _ _ _ (C.state 4) rfl rfl H))
theorem acm {p:Nat} {n:Int} {Q:Hp->Prop} (m:dC h0 K) (mc:cH K.c) (o:Has h0 (aK K pm s d) k) (H:j5 K.c s) (hp:p<nQ K.c) (hn:0<=n/\n<K.c.ai) (S:∀q∈(s.part (aB K.c p)).au,(p:Int)∉q)
  (h:∀E,Has h0 (aK K pm (iO K.c s p n) d) E->Q E):
 ah none (some (K.q (aB K.c p))) λp8=>
 aQ none aj k (Addr.add p8 5) λx7=>
 ah none (some (K.p p)) λp9=>
 aQ none (ab .i64) k (Addr.add p9 0) λx8=>
 bF prog N3 [(.pointer x7),(.int .i64 n),(.int .i64 x8)] aR (ab .i64) (λr2 r3 g=>
 (if r2=true then
 ah none (some (K.p p)) λi=>
 aQ none fE g (Addr.add i 4) λC=>
 aa prog xg [C.v] fE (λb f=>
 ah none (some (K.p p)) λB=>
 da f (Addr.add B 4) [(.int .i64 b.PC),(.int .i64 b.bW),(.int .i64 b.bX),(.int .i64 b.bY),(.int .i64 b.bZ),(.int .i64 b.cc),(.int .i64 b.cd),(.int .i64 b.cf),(.int .i64 b.cg)] (λr=>
 Q r)) g
 else
 ah none (some (K.p p)) λi=>
 da g (Addr.add i 3) [(.int .i64 (3:Int))] (λf=>
 Q f))) k:=by
  have D:aB K.c p<nP K.c:=mc.fD;have l:=H.part _ D;have b3:=l.ja;have b2:=l.ij;obtain ⟨h3,I,Z,b5,l4,T,a8,ol,G⟩:=o.rn D;have N:I.ai=some Z:=T.2.2.2.2.1;obtain ⟨b1,J,b0,b4,U,a9,_⟩:=o.dN hp;refine aY (a8.ld (shf:=aj) I.ai rfl ?_);refine aY (a9.ld (shf:=ab .i64) J.dP rfl ?_);have M:J.dP=(p:Int):=U.1;rw [N,M];have R:n.toNat<(s.part (aB K.c p)).au.length:=by omega
  have O:((n.toNat:Nat):Int)=n:=by omega
  have u:=List.getElem?_eq_getElem R;have t:=List.getElem?_eq_getElem (show n.toNat<(s.part (aB K.c p)).aC.length by omega);generalize (s.part (aB K.c p)).au[n.toNat]=q at u;generalize (s.part (aB K.c p)).aC[n.toNat]=ow at t;unfold iO at h;dsimp only at h;rw [nD t,Xr u] at h;have key:=Zw (n:=n.toNat) (w:=(p:Int)) (Q:=λr2 (r3:Int) g=>(if r2=true then
 ah none (some (K.p p)) λi=>
 aQ none fE g (Addr.add i 4) λC=>
 aa prog xg [C.v] fE (λb f=>
 ah none (some (K.p p)) λB=>
 da f (Addr.add B 4) [(.int .i64 b.PC),(.int .i64 b.bW),(.int .i64 b.bX),(.int .i64 b.bY),(.int .i64 b.bZ),(.int .i64 b.cc),(.int .i64 b.cd),(.int .i64 b.cf),(.int .i64 b.cg)] (λr=>
 Q r)) g
 else
 ah none (some (K.p p)) λi=>
 da g (Addr.add i 3) [(.int .i64 (3:Int))] (λf=>
 Q f))) ol ⟨by have:=l.jW.1;omega,l.jW.2⟩ S (by omega) t u (λf V y=> ?_) λf V y=> ?_
  ·rw [O] at key;exact RV key
  ·dsimp only;rw [if_pos rfl];rw [if_pos f] at h;have j:=G _ _ _ y;obtain ⟨h1,z,a,Y,x,A,put⟩:=j.dN hp;have e:gM (eZ z)=(s.proc p).core:=x.2.2.2.2.1;have P:(eZ z).PC=(s.proc p).pc:=congrArg Core.pc e;refine aY (A.ld (shf:=fE) (eZ z) rfl ?_);refine DZ (sP (by rw [P];exact H.told hp) λc' L=> ?_);refine aY (wO j hp λX F=>h X ?_);rw [L,e] at F;exact F
  ·dsimp only;rw [if_neg (by decide)];rw [if_neg f] at h;have j:=G _ _ _ y;obtain ⟨h1,z,a,Y,x,A,put⟩:=j.dN hp;exact aY (A.st (pa z 3) (by show 3+1<=15;omega) rfl λW o4=>h W (put _ _ _ (x.state 3) rfl rfl o4))
theorem KD {w:Int}:∀ {os:List Int} {i j:Nat},os[j]? =some w->((i+j:Nat):Int)∈hold w os i
 | [],_,j,h=>by simp at h
 | o::r,i,0,h=>by unfold hold;grind
 | o::r,i,j+1,h=>by have a:=KD (i:=i+1) (j:=j) (os:=r) (w:=w) (by simpa using h);rw [show i+1+j=i+(j+1) by omega] at a;unfold hold;grind
theorem Xt {p:Nat} {n:Int} {Q:Hp->Prop} (m:dC h0 K) (mc:cH K.c) (o:Has h0 (aK K pm s d) k) (O:j5 K.c s) (hp:p<nQ K.c) (hn:0<=n/\n<K.c.ai)
  (f:∀y,Has h0 (aK K pm (tX K.c s p n) d) y->Q y):
 ah none (some (K.q (aB K.c p))) λp8=>
 aQ none aj k (Addr.add p8 5) λx7=>
 ah none (some (K.p p)) λp9=>
 aQ none (ab .i64) k (Addr.add p9 0) λx8=>
 aa prog NZ [(.pointer x7),(.int .i64 x8)] an (λr2 D=>
 ((True/\True)/\aa prog NQ [r2.v,(.int .i64 n)] aR (λr3 b=>
 (if r3=true then
 ah none (some (K.q (aB K.c p))) λc1=>
 aQ none aj b (Addr.add c1 5) λx9=>
 ah none (some (K.p p)) λc2=>
 aQ none (ab .i64) b (Addr.add c2 0) λc4=>
 bF prog Jq [(.pointer x9),(.int .i64 n),(.int .i64 c4)] (ab .i64) (ab .i64) (λI r5 g=>
 bV prog Dh [(.pointer (some pm)),(.int .i64 I)] (λE=>
 Q E) g) b
 else
 Q b)) D)) k:=by
  have F:aB K.c p<nP K.c:=mc.fD;have C:=O.part _ F;have d2:=C.ja;have d1:=C.ij;have d0:=C.jW.1;obtain ⟨h3,R,b5,d7,l4,b1,b8,ol,c3⟩:=o.rn F;have W:R.ai=some b5:=b1.2.2.2.2.1;obtain ⟨c7,S,c5,d3,b2,b9,_⟩:=o.dN hp;refine aY (b8.ld (shf:=aj) R.ai rfl ?_);refine aY (b9.ld (shf:=ab .i64) S.dP rfl ?_);have U:S.dP=(p:Int):=b2.1;rw [W,U];have a9:n.toNat<(s.part (aB K.c p)).au.length:=by omega
  have Y:((n.toNat:Nat):Int)=n:=by omega
  have x:=List.getElem?_eq_getElem a9;have u:=List.getElem?_eq_getElem (show n.toNat<(s.part (aB K.c p)).aC.length by omega);generalize (s.part (aB K.c p)).au[n.toNat]=q at x;generalize (s.part (aB K.c p)).aC[n.toNat]=M at u;unfold tX at f;dsimp only at f;rw [nD u,nD x] at f;refine zqb (IW ol (by omega) (by omega) λsl G l=> ?_);have o3:Has h0 ((aK K pm s d).star (eu 1 fZ sl (hold (p:Int) (s.part (aB K.c p)).aC 0))) G:=l.carry λy o'=>by
   have D:=c3 _ _ y o';have e:s.dz (aB K.c p) {s.part (aB K.c p) with aC:=(s.part (aB K.c p)).aC,au:=(s.part (aB K.c p)).au}=s:=FD
   rwa [e] at D
  obtain ⟨g,A,B,hr⟩:=o3.aside (λ_=>rfl);refine ⟨⟨trivial,trivial⟩,?_⟩;have a8:(hold (p:Int) (s.part (aB K.c p)).aC 0).length<=1000000:=by
   have:∀(os:List Int) (i:Nat),(hold (p:Int) os i).length<=os.length:=by
    intro os
    induction os with
    | nil=>intro i;exact Nat.le_refl _
    | cons a r ih=>intro i;have:=ih (i+1);unfold hold;split<;>simp<;>omega
   grind
  refine zju (Ld (Rw.mono B.le hr) a8 ?_);have J:n∈hold (p:Int) (s.part (aB K.c p)).aC 0↔M=(p:Int):=by
   constructor
   ·intro h;obtain ⟨j,e1,e2⟩:=uC h;grind
   ·intro h;subst h;have:=KD (i:=0) u;grind
  by_cases h:M=(p:Int)
  ·rw [if_pos (decide_eq_true (J.2 h))];rw [if_pos h] at f;subst h;have L:=m.mono A;obtain ⟨c8,P,b4,d6,d4,b0,b7,b6,N⟩:=B.rn F;have X:P.ai=some b4:=b0.2.2.2.2.1;obtain ⟨c9,T,c6,d5,b3,c0,_⟩:=B.dN hp;refine aY (b7.ld (shf:=aj) P.ai rfl ?_);refine aY (c0.ld (shf:=ab .i64) T.dP rfl ?_);have V:T.dP=(p:Int):=b3.1;rw [X,V];have key:=Ks (n:=n.toNat) (w:=(p:Int)) (Q:=λI (r5:Int) g=>bV prog Dh [(.pointer (some pm)),(.int .i64 I)] (λE=>Q E) g) b6 (by omega) u x (λb G l=> ?_) λa r b G l=> ?_
   ·rw [Y] at key;exact zrq key
   ·subst b;have H:=N _ _ _ l;refine Se (FC L H (λh=>absurd h (by decide)) λz t=> ?_);have t:Has g (aK K pm (s.dz (aB K.c p) {s.part (aB K.c p) with aC:=(s.part (aB K.c p)).aC.set n.toNat (-1),au:=(s.part (aB K.c p)).au}) d) z:=t;exact f z (t.mono A)
   ·subst b;have H:=N _ _ _ l;have Z:0<=a/\a<(nQ K.c:Int):=(C.nd _ (List.mem_of_getElem? x)).2 a (List.mem_cons_self ..);refine Se (FC L H (λh=>⟨Z.2,?_⟩) λz t=>f z (t.mono A));exact O.told (by omega)
  ·rw [if_neg (λe=>h (J.1 (of_decide_eq_true e)))];rw [if_neg h] at f;exact f _ (B.mono A)
theorem adQ {p:Nat} {v:Int} {Q:Hp->Prop} (m:dC h0 K) (S:cH K.c) (o:Has h0 (aK K pm s d) k) (sa:j5 K.c s) (hp:p<nQ K.c)
  (f:∀J,Has h0 (aK K pm (qC K.c s p v) d) J->Q J):
 ah none (some (K.q (aB K.c p))) λY=>
 aQ none an k (Addr.add Y 2) λx7=>
 ah none (some pm) λZ=>
 aQ none (ab .i64) k (Addr.add (Addr.add Z 0) 5) λx8=>
 (if (decide (((x7.len:Nat):Int)<x8))=true then
 ah none (some (K.q (aB K.c p))) λy=>
 aQ none an k (Addr.add y 2) λA=>
 ah none (some pm) λF=>
 aQ none (ab .i64) k (Addr.add F 9) λa9=>
 ah none (some (K.p p)) λX=>
 aQ none (ab .i64) k (Addr.add X 0) λb0=>
 bP [(.int .i64 a9),(.int .i64 b0),(.int .i64 v)] (λa r=>
 (((bG r (Addr.add y 2) [A.v])/\True)/\gF 3 24 [(.int .i64 (0:Int)),(.int .i64 (0:Int)),(.int .i64 (0:Int))] A ⟨(some a),1,1⟩ (λr2 g=>
 ah none (some (K.q (aB K.c p))) λG=>
 da g (Addr.add G 2) [r2.v] (λi=>
 Q i)) r)) k
 else
 ah none (some (K.q (aB K.c p))) λy=>
 aQ none (ab .i64) k (Addr.add y 3) λA=>
 aa prog Om [(.int .i64 A)] (ab .i64) (λr2 r=>
 ah none (some (K.q (aB K.c p))) λF=>
 da r (Addr.add F 3) [(.int .i64 r2)] (λg=>
 Q g)) k):=by
  have I:aB K.c p<nP K.c:=S.fD;have M:=sa.part _ I;have b1:=M.kz;obtain ⟨h1,x,lp,wp,l1,j,u,put⟩:=o.ru I;have w:=Has.left u;refine aY (w.ld (shf:=an) x.log rfl ?_);have B:(GV K.x).Log=K.c.log:=m.cfg.log;have B:K.x.ki=K.c.log:=B;refine aY ?_;rw [s6];refine o.ft.ld (shf:=ab .i64) K.x.ki rfl ?_;have O:=u.right.left.iR;unfold qC at f;dsimp only at f;rw [B,O];by_cases h:((s.part (aB K.c p)).log.length:Int)<K.c.log
  ·rw [if_pos (decide_eq_true h)];rw [if_pos h] at f;obtain ⟨h2,z,a,l2,P,W,_⟩:=o.dN hp;refine aY (w.ld (shf:=an) x.log rfl ?_);refine aY (o.ft.ld (shf:=ab .i64) s.tick rfl ?_);refine aY (W.ld (shf:=ab .i64) z.dP rfl ?_);have N:z.dP=(p:Int):=P.1;rw [N];obtain ⟨h3,l3,T,a8⟩:=u.f2;have key:=T.push (sz:=3) (zero:=[(.int .i64 (0:Int)),(.int .i64 (0:Int)),(.int .i64 (0:Int))]) (bytes:=24) (e:=(⟨s.tick,(p:Int),v⟩:qI)) (cs:=[(.int .i64 s.tick),(.int .i64 (p:Int)),(.int .i64 v)]) rfl (λ_=>rfl) (λ_=>rfl) rfl ⟨by omega,by omega⟩
    (K:=λr2 g=>ah none (some (K.q (aB K.c p))) λG=>
 da g (Addr.add G 2) [r2.v] (λi=>
 Q i)) λL k2 U=> ?_
   ·exact λb t hb=>⟨⟨qk (nu hb) (w.fq (n:=1) rfl),trivial⟩,key b t hb⟩
   ·have V:=a8 _ _ U;obtain ⟨i,R,C,H⟩:=V.f1;refine aY (C.st (⟨x.procs,x.af,L,x.lost,x.forbidden,x.ai,x.eD⟩:bC) (by show 2+1<=7;omega) rfl λl D=>f l ?_);have E:=H _ _ D;have:=put (⟨x.procs,x.af,L,x.lost,x.forbidden,x.ai,x.eD⟩:bC) {s.part (aB K.c p) with log:=(s.part (aB K.c p)).log++ [⟨s.tick,(p:Int),v⟩]} (d (aB K.c p)) l j E;rw [yR] at this;exact this
  ·rw [if_neg (λe=>h (of_decide_eq_true e))];rw [if_neg h] at f;refine aY (w.ld (shf:=ab .i64) x.lost rfl ?_);have ex:x.lost=(s.part (aB K.c p)).lost:=j.2.2.1;rw [ex];refine zyq (Kw M.lost ?_);obtain ⟨i,R,C,H⟩:=u.f1;refine aY (C.st (⟨x.procs,x.af,x.log,more (s.part (aB K.c p)).lost,x.forbidden,x.ai,x.eD⟩:bC) (by show 3+1<=7;omega) rfl λl D=>f l ?_);have E:=H _ _ D;have:=put (⟨x.procs,x.af,x.log,more (s.part (aB K.c p)).lost,x.forbidden,x.ai,x.eD⟩:bC) {s.part (aB K.c p) with lost:=more (s.part (aB K.c p)).lost} (d (aB K.c p)) l ⟨j.1,j.2.1,rfl,j.2.2.2⟩ E;rw [yR] at this;exact this
end
def nE (c:aW) (s:MS) (i id:Nat):Int:=if id / 2<nQ c/\aB c (id / 2)=i then (if id%2=0 then (s.proc (id / 2)).timer else (s.proc (id / 2)).cQ) else 0
def dG (c:aW) (a:Nat->Nat->Int) (s:MS):Prop:=∀i id,i<nP c->a i id=nE c s i id
def TW (s:MS):Nat->Int×Int:=λq=>((s.proc q).timer,(s.proc q).cQ)
section
variable {c:aW} {s s':MS} {b:Nat->Nat->Int} {p:Nat} {y:ak}
theorem rY (h:(y.timer,y.cQ)=((s.proc p).timer,(s.proc p).cQ)):TW (s.aO p y)=TW s:=by
 funext q;unfold TW;by_cases e:q=p
 ·subst e;rw [gy,h]
 ·rw [iW e]
theorem rU {v:Int}:TW (cx c s p v)=TW s:=rY rfl
theorem adR :TW (qa s p)=TW s:=rY rfl
theorem KE {lz:Int}:TW (gY s lz)=TW s:=by
 unfold gY;split
 ·exact adR
 ·rfl
theorem DW {q:Nat} (h:(y.timer,y.cQ)=((s.proc q).timer,(s.proc q).cQ)):TW (s.aO q (eC y))=TW s:=rY h
theorem adS {to v:Int} {fl:Nat->Nat->Bool}:TW (jk c fl s p to v)=TW s:=by
 unfold jk;split
 ·exact rU
 split
 ·exact rU
 split
 ·split
  ·exact rU
  split
  ·dsimp only;have e:TW (s.aO to.toNat (bL (s.proc to.toNat) (aB c p) (il p v)))=TW s:=rY rfl;rw [<-e];exact rY rfl
  ·rw [rU];exact DW rfl
 split
 ·rw [rU];exact rY rfl
 ·rw [rU];exact DW rfl
theorem LR {t:Bool}:TW (iS c s p t)=TW s:=by
 unfold iS;dsimp only;split
 ·split
  ·exact rY rfl
  ·rw [rU];exact rY rfl
 ·split
  ·exact rY rfl
  split
  ·exact rY rfl
  ·exact rY rfl
theorem adU {n:Int}:TW (iO c s p n)=TW s:=by
 unfold iO;dsimp only;split
 ·unfold iO.goK;exact rY rfl
 ·exact rY rfl
theorem ZU {n:Int}:TW (tX c s p n)=TW s:=by
 unfold tX;dsimp only;split
 ·split
  ·rfl
  ·exact KE
 ·rfl
theorem Pj {v:Int}:TW (qC c s p v)=TW s:=rfl
theorem dG.cW (t:dG c b s) (h:TW s'=TW s):dG c b s':=λi id e=>by have:=congrFun h (id / 2);have a:(s'.proc (id / 2)).timer=(s.proc (id / 2)).timer:=congrArg Prod.fst this;have d:(s'.proc (id / 2)).cQ=(s.proc (id / 2)).cQ:=congrArg Prod.snd this;rw [t i id e];unfold nE;rw [a,d]
theorem dG.set (t:dG c b s) (hp:p<nQ c) {id:Nat} {v:Int} (hid:id=2*p\/id=2*p+1) (h:∀q,TW s' q=if q=p then (if id=2*p then (v,(s.proc p).cQ) else ((s.proc p).timer,v)) else TW s q):dG c (cN b (aB c p) (cN (b (aB c p)) id v)) s':=λi a k=>by
 have d:=h (a / 2);by_cases e:a / 2=p
 ·rw [if_pos e] at d;unfold nE;by_cases g:aB c p=i
  ·subst g;rw [kg];have f:=t _ a k;unfold nE at f;rw [if_pos ⟨by omega,by rw [e]⟩] at f ⊢;rcases hid with rfl | rfl
   ·rw [if_pos rfl] at d;by_cases j:a=2*p
    ·subst j;rw [kg,if_pos (by omega)];exact (congrArg Prod.fst d).symm
    ·rw [kp j,if_neg (by omega)];rw [if_neg (by omega)] at f;rw [f,e];rw [e] at d;exact (congrArg Prod.snd d).symm
   ·rw [if_neg (by omega)] at d;by_cases j:a=2*p+1
    ·subst j;rw [kg,if_neg (by omega)];exact (congrArg Prod.snd d).symm
    ·rw [kp j,if_pos (by omega)];rw [if_pos (by omega)] at f;rw [f,e];rw [e] at d;exact (congrArg Prod.fst d).symm
  ·rw [kp (Ne.symm g)];have f:=t _ a k;unfold nE at f;grind
 ·rw [if_neg e] at d;have n:cN b (aB c p) (cN (b (aB c p)) id v) i a=b i a:=by
   by_cases g:i=aB c p
   ·subst g;rw [kg,kp (by omega)]
   ·rw [kp g]
  rw [n,t i a k];unfold nE;have l:(s'.proc (a / 2)).timer=(s.proc (a / 2)).timer:=congrArg Prod.fst d;have m:(s'.proc (a / 2)).cQ=(s.proc (a / 2)).cQ:=congrArg Prod.snd d;rw [l,m]
theorem I4 :∀ {l:List Int} {s:MS},TW (l.foldl gY s)=TW s
 | [],s=>rfl
 | a::l,s=>by rw [List.foldl_cons,I4,KE]
theorem KF {v:Int}:∀ {l:List mL} {s:MS},TW (l.foldl (λs w=>cx c s w.proc.toNat v) s)=TW s
 | [],s=>rfl
 | a::l,s=>by rw [List.foldl_cons,KF,rU]
theorem Pm {st:Int} (q:Nat):TW (lS c s p st) q=if q=p then (0,0) else TW s q:=by
 rw [zn];unfold qW;rw [KF];have g:TW (jD (iv (jC c (ff c s p st) p) p) p)=TW (iv (jC c (ff c s p st) p) p):=rY rfl;rw [g];have f:TW (jC c (ff c s p st) p)=TW s:=by unfold jC;rw [I4];have d:TW (qu c (ff c s p st) p)=TW (ff c s p st):=rfl;rw [d];have a:TW (gB s p st)=TW s:=rY rfl;rw [<-a];funext r;show ((if r∈_ then ni p _ else _:ak).timer,(if r∈_ then ni p _ else _:ak).cQ)=_;split<;>rfl
 by_cases e:q=p
 ·subst e;rw [if_pos rfl];unfold TW iv;rw [gy]
 ·rw [if_neg e,<-f];unfold TW iv;rw [iW e]
theorem dG.ended {st:Int} (t:dG c b s) (hp:p<nQ c):dG c (qX b (aB c p) p) (lS c s p st):=by
 have d:=t.set (s':=s.aO p {s.proc p with timer:=0}) hp (id:=2*p) (v:=0) (.inl rfl) λq=>by
  unfold TW;by_cases e:q=p
  ·subst e;rw [gy,if_pos rfl,if_pos rfl]
  ·rw [iW e,if_neg e]
 have a:=d.set (s':=lS c s p st) hp (id:=2*p+1) (v:=0) (.inr rfl) λq=>by
  rw [Pm];by_cases e:q=p
  ·subst e;rw [if_pos rfl,if_pos rfl,if_neg (by omega),gy]
  ·rw [if_neg e,if_neg e];unfold TW;rw [iW e]
 rw [kg,M3] at a;exact a
end
theorem aco {D:Int->Int->Int->Int} {l:List eT} {k:Core} {tk self:Int} (a:0<=k.pc/\k.pc<=1000) (d:k.bJ.length=8) (g:l.length<=256):0<=(gV D l k tk self).1.pc/\(gV D l k tk self).1.pc<=1000:=by
 rcases FJ (D:=D) (l:=l) (k:=k) (tk:=tk) (self:=self) with ⟨_,e⟩ | ⟨n,b,f,⟨_,e⟩ | ⟨w,st,_,e⟩⟩
 ·rw [e];exact a
 ·rw [e];have:=(H5 (D:=D) (tk:=tk) (self:=self) b f d).1;grind
 ·rw [e];have h:0<=k.pc/\k.pc<l.length:=rO (c:=⟨[],[],0,0,0,0,[⟨0,l⟩]⟩) (p:=0) (x:=⟨0,k.pc,[],0,0,false,0,[]⟩) b;cases st
  ·show 0<=k.pc+1/\k.pc+1<=1000;omega
  ·exact a
section
variable {h0 h1 k:Hp} {K:MK} {pm:Addr} {s:MS} {f:Nat->Nat->Int}
theorem acq {p:Nat} {Q:Hp->Prop} (tk:zd) (m:dC h0 K) (u:cH K.c) (o:Has h0 (aK K pm s f) k) (S:j5 K.c s) (hp:p<nQ K.c) (Y:0<=s.tick/\s.tick<=4611686018427387904) (hr:(s.proc p).bJ.length=8)
  (hw:∀q,q<nQ K.c->∀l∈(s.proc q).ag,∀z∈l.waiters,z.proc≠(p:Int)) (b4:∀q∈(s.part (aB K.c p)).au,(p:Int)∉q) (td:dG K.c f s)
  (g:∀a9 i,Has h0 (aK K pm (tx K.c gx (iE K.c) s p) a9) i->dG K.c a9 (tx K.c gx (iE K.c) s p)->Q i):UH prog (some pm) (some (K.p p)) Q k:=by
 unfold UH;have hi:aB K.c p<nP K.c:=u.fD;obtain ⟨h1,z,a,l1,P,R,put⟩:=o.dN hp;have e:gM (eZ z)=(s.proc p).core:=P.2.2.2.2.1;have ei:z.dP=(p:Int):=P.1;refine aY (R.ld (shf:=fE) (eZ z) rfl ?_);refine aY (R.ld (shf:=an) z.code rfl ?_);refine aY (o.ft.ld (shf:=ab .i64) s.tick rfl ?_);refine aY (R.ld (shf:=ab .i64) z.dP rfl ?_);rw [ei];have U:=(m.code p hp).2;have b2:(gG K.c p).length<=256:=u.mq;have c0:(K.ins p).length<=256:=by have:=congrArg List.length U;rw [List.length_map] at this;omega
 refine PM (acd (m.q9 o.le hp P) (by omega) λc' w k1 l2 T v=> ?_);rw [U,e] at T v;refine aY (wO (o.grow l2) hp λk2 t=> ?_);rw [T] at t;have sp:=S.proc p hp;have b5:=aco (D:=gx) (l:=gG K.c p) (k:=(s.proc p).core) (tk:=s.tick) (self:=(p:Int)) sp.pc hr b2;have W:(w.Kind=7\/w.Kind=8)->0<=w.To/\w.To<K.c.ai:=by
  intro h;rcases FJ (D:=gx) (l:=gG K.c p) (k:=(s.proc p).core) (tk:=s.tick) (self:=(p:Int)) with ⟨C,_⟩ | ⟨n,hn,c1,⟨_,C⟩ | ⟨w',st,b7,C⟩⟩
  ·rw [<-v] at C;have:w.Kind=1:=C;omega
  ·rw [C] at v;have:w.Kind=0:=congrArg Want.kind v;omega
  ·rw [C] at v;have v:tf w=w':=v;subst v;have b3:eA K.c p (s.proc p)=some n:=hn;have Z:=(u.ins b3).1;rcases H3 b7 with ⟨a,_⟩ | ⟨_,a,_⟩ | ⟨_,a,_⟩ | ⟨_,a,_⟩ | ⟨a,_⟩ | ⟨_,a,_⟩ | ⟨b,a,d,_⟩ | ⟨b,a,d,_⟩ | ⟨a,_⟩
   ·have a:w.Kind=1:=a;omega
   ·have a:w.Kind=2:=congrArg Want.kind a;omega
   ·have a:w.Kind=3:=a;omega
   ·have a:w.Kind=4:=a;omega
   ·have a:w.Kind=5:=a;omega
   ·have a:w.Kind=6:=a;omega
   ·have d:w.To=n.mS:=d;rw [d];exact xS Z (.inl b)
   ·have d:w.To=n.mS:=d;rw [d];exact xS Z (.inr b)
   ·have a:w.Kind=9:=a;omega
 unfold tx at g;dsimp only at g;rw [<-v] at g;generalize hg:(gV gx (gG K.c p) (s.proc p).core s.tick (p:Int)).1=E at*;have B:j5 K.c (s.aO p ((s.proc p).put E)):=by
  refine ⟨λq O=> ?_,S.part⟩;by_cases eq:q=p
  ·subst eq;rw [gy];exact ⟨b5,sp.len,sp.cur,sp.eJ⟩
  ·rw [iW eq];exact S.proc q O
 have y:dG K.c f (s.aO p ((s.proc p).put E)):=td.cW (rY rfl);have b6:∀q,q<nQ K.c->∀l∈((s.aO p ((s.proc p).put E)).proc q).ag,∀z∈l.waiters,z.proc≠(p:Int):=λq O l V=>by
  have:((s.aO p ((s.proc p).put E)).proc q).ag=(s.proc q).ag:=by
   by_cases eq:q=p
   ·subst eq;rw [gy];rfl
   ·rw [iW eq]
  rw [this] at V;exact hw q O l V
 generalize X:s.aO p ((s.proc p).put E)=s1 at*;have F:s1.tick=s.tick:=by rw [<-X];rfl
 have b0:s1.part=s.part:=by rw [<-X];rfl
 obtain ⟨h3,z3,a3,l3,b8,b9,_⟩:=t.dN hp;obtain ⟨g1,g2⟩:=m.uw t hi;refine aY (t.ft.ld (shf:=an) K.x.parts rfl ?_);refine aY (b9.ld (shf:=ab .i64) z3.part rfl ?_);have ep:z3.part=(aB K.c p:Int):=b8.2.1;rw [ep];refine ⟨g1,some (K.q (aB K.c p)),g2,?_⟩;dsimp only;have j:∀n:Int,(w.Kind==n)=true↔w.Kind=n:=λn=>by simp
 have ek:(tf w).kind=w.Kind:=rfl;have b1:(tf w).to=w.To:=rfl;have ev:(tf w).value=w.dV:=rfl;rw [ek,b1,ev] at g;by_cases J:w.Kind=1
 ·rw [if_pos ((j 1).2 J)];simp only [if_pos J] at g;exact zmv (KC m u t B hp λi r=>g _ i r (y.ended hp))
 rw [if_neg (λh=>J ((j 1).1 h))];simp only [if_neg J] at g;by_cases L:w.Kind=2
 ·rw [if_pos ((j 2).2 L)];simp only [if_pos L] at g;exact zvm (ZM m u t B hp b6 λi r=>g _ i r (y.cW adS))
 rw [if_neg (λh=>L ((j 2).1 h))];simp only [if_neg L] at g;by_cases A:w.Kind=3
 ·simp only [if_pos A] at g;refine dp.direct ?_;rw [if_pos ((j 3).2 A)];dsimp only;rw [if_pos ((j 3).2 A),show (w.Kind==4)=false by rw [A];rfl];exact zlq (I0 tk m u t B hp λi r=>g _ i r (y.cW LR))
 simp only [if_neg A] at g;by_cases G:w.Kind=4
 ·simp only [if_pos G] at g;refine dp.direct ?_;rw [if_neg (λh=>A ((j 3).1 h))];dsimp only;rw [if_pos ((j 4).2 G),(j 4).2 G];exact zlq (I0 tk m u t B hp λi r=>g _ i r (y.cW LR))
 simp only [if_neg G] at g;refine dp.direct ?_;rw [if_neg (λh=>A ((j 3).1 h))];dsimp only;rw [if_neg (λh=>G ((j 4).1 h))];by_cases M:w.Kind=5
 ·rw [if_pos ((j 5).2 M)];simp only [if_pos M] at g;refine ZS m u t hp (by rw [F];exact Y) λi r=> ?_;refine g (vV f (aB K.c p) p s1.tick w.dV) i ?_ ?_
  ·rw [Gr,Gw] at r ⊢;rw [F] at r ⊢;exact r
  ·refine y.set hp (.inl rfl) λq=> ?_;unfold TW;by_cases eq:q=p
   ·subst eq;rw [gy,if_pos rfl,if_pos rfl,F]
   ·rw [iW eq,if_neg eq]
 rw [if_neg (λh=>M ((j 5).1 h))];simp only [if_neg M] at g;by_cases N:w.Kind=6
 ·rw [if_pos ((j 6).2 N)];simp only [if_pos N] at g;refine ZT m u t hp (by rw [F];exact Y) λi r=> ?_;refine g (cN f (aB K.c p) (cN (f (aB K.c p)) (2*p+1) (s1.tick+qA (vD w.dV 1) 1099511627776))) i ?_ ?_
  ·rw [Gr,Gw] at r ⊢;exact r
  ·refine y.set hp (.inr rfl) λq=> ?_;unfold TW;by_cases eq:q=p
   ·subst eq;rw [gy,if_pos rfl,if_neg (by omega),F]
   ·rw [iW eq,if_neg eq]
 rw [if_neg (λh=>N ((j 6).1 h))];simp only [if_neg N] at g;by_cases H:w.Kind=7
 ·rw [if_pos ((j 7).2 H)];simp only [if_pos H] at g;exact acm m u t B hp (W (.inl H)) (by rw [b0];exact b4) λi r=>g _ i r (y.cW adU)
 rw [if_neg (λh=>H ((j 7).1 h))];simp only [if_neg H] at g;by_cases I:w.Kind=8
 ·rw [if_pos ((j 8).2 I)];simp only [if_pos I] at g;exact Xt m u t B hp (W (.inr I)) λi r=>g _ i r (y.cW ZU)
 rw [if_neg (λh=>I ((j 8).1 h))];simp only [if_neg I] at g;by_cases a8:w.Kind=9
 ·rw [if_pos ((j 9).2 a8)];simp only [if_pos a8] at g;exact adQ m u t B hp λi r=>g _ i r (y.cW Pj)
 grind
end
def oK (x:ak):ak:={x with cQ:=0,state:=0,pc:=x.pc+1}
def sy (x:ak):ak:={x with timer:=0,bN:=true,state:=if x.state=1 then 0 else x.state}
def j6 (a:List Int) (q:Nat) (x:ak):ak:=
 if ((2*q:Nat):Int)∈a then sy (if ((2*q+1:Nat):Int)∈a then oK x else x) else (if ((2*q+1:Nat):Int)∈a then oK x else x)
def mu (s:MS) (a:List Int):MS:=⟨s.tick,s.part,λq=>j6 a q (s.proc q)⟩
theorem LU {t:Int} {x:ak}:mw t x=(if 0<x.timer/\x.timer<=t then sy (if 0<x.cQ/\x.cQ<=t then oK x else x) else (if 0<x.cQ/\x.cQ<=t then oK x else x)):=by
 unfold mw;dsimp only;by_cases h:0<x.cQ/\x.cQ<=t
 ·simp only [if_pos h];rfl
 ·simp only [if_neg h];rfl
theorem ZV {a:List Int} {q:Nat} {x:ak} (h:((2*q+1:Nat):Int)∉a):j6 (a++ [((2*q+1:Nat):Int)]) q x=oK (j6 a q x):=by
 unfold j6;have b:((2*q+1:Nat):Int)∈a++ [((2*q+1:Nat):Int)]:=by simp
 have c:((2*q:Nat):Int)∈a++ [((2*q+1:Nat):Int)]↔((2*q:Nat):Int)∈a:=by grind
 simp only [if_pos b,if_neg h,c];split
 ·unfold sy oK;simp
 ·rfl
theorem I5 {a:List Int} {q:Nat} {x:ak} (h:((2*q:Nat):Int)∉a):j6 (a++ [((2*q:Nat):Int)]) q x=sy (j6 a q x):=by unfold j6;grind
theorem Xv {a:List Int} {q:Nat} {x:ak} {id:Int} (b:id≠((2*q:Nat):Int)) (c:id≠((2*q+1:Nat):Int)):j6 (a++ [id]) q x=j6 a q x:=by unfold j6;grind
theorem ZW {s:MS} {a:List Int} {id:Int} {q:Nat} {y:ak} (h:id=((2*q:Nat):Int)\/id=((2*q+1:Nat):Int)) (b:se y=se (j6 (a++ [id]) q (s.proc q))):uJ ((mu s a).aO q y)=uJ (mu s (a++ [id])):=by
 rw [Gw,b];unfold uJ mu MS.aO;congr 1;funext r;unfold cN;by_cases e:r=q
 ·grind
 ·rw [if_neg e];show se (j6 a r (s.proc r))=se (j6 (a++ [id]) r (s.proc r));rw [Xv (by omega) (by omega)]
section
variable {h0 h1 k:Hp} {K:MK} {pm:Addr} {s:MS} {b:Nat->Nat->Int}
theorem acs {c:aW} {i:Nat} {ids:List Int} (d:dG c b s) (a:i<nP c) (o:∀x∈ids,0<=x/\x<(2*nQ c:Nat)) (g:∀j:Nat,(j:Int)∈ids↔0<b i j/\b i j<=s.tick):mu s ids=iu c s i:=by
 unfold mu iu;congr 1;funext q;by_cases h:q<nQ c/\aB c q=i
 ·rw [if_pos h,LU];unfold j6;have l:b i (2*q)=(s.proc q).timer:=by rw [d i _ a];unfold nE;rw [show 2*q / 2=q by omega,if_pos h,if_pos (by omega)]
  have m:b i (2*q+1)=(s.proc q).cQ:=by rw [d i _ a];unfold nE;rw [show (2*q+1) / 2=q by omega,if_pos h,if_neg (by omega)]
  grind
 ·rw [if_neg h];have e:∀j,j / 2=q->¬(j:Int)∈ids:=λj n f=>by have h1:=(g j).1 f;rw [d i _ a] at h1;unfold nE at h1;grind
  unfold j6;rw [if_neg (e _ (by omega)),if_neg (e _ (by omega))]
theorem dG.due {c:aW} {i:Nat} (g:dG c b s) (m:i<nP c):dG c (cN b i (od (b i) s.tick)) (iu c s i):=λj id f=>by
 have key:∀x:ak,(mw s.tick x).timer=(if 0<x.timer/\x.timer<=s.tick then 0 else x.timer)/\(mw s.tick x).cQ=(if 0<x.cQ/\x.cQ<=s.tick then 0 else x.cQ):=λx=>by rw [LU];by_cases h1:0<x.timer/\x.timer<=s.tick<;>by_cases a:0<x.cQ/\x.cQ<=s.tick<;>simp [h1,a,sy,oK]
 by_cases e:j=i
 ·subst e;rw [kg];unfold od;rw [g j id f];unfold nE;by_cases h:id / 2<nQ c/\aB c (id / 2)=j
  ·rw [if_pos h,if_pos h];have d:(iu c s j).proc (id / 2)=mw s.tick (s.proc (id / 2)):=if_pos h;rw [d];by_cases a:id%2=0
   ·rw [if_pos a,if_pos a];exact (key _).1.symm
   ·rw [if_neg a,if_neg a];exact (key _).2.symm
  omega
 ·rw [kp e,g j id f];unfold nE;by_cases h:id / 2<nQ c/\aB c (id / 2)=j
  ·rw [if_pos h,if_pos h];have d:(iu c s i).proc (id / 2)=s.proc (id / 2):=if_neg (by rw [h.2];exact λl=>e l.2);rw [d]
  omega
theorem adW {i:Nat} {Q:Hp->Prop} (m:dC h0 K) (mc:cH K.c) (o:Has h0 (aK K pm s b) k) (sa:j5 K.c s) (w:i<nP K.c) (H:dG K.c b s)
  (W:∀I j,Has h0 (aK K pm (iu K.c s i) I) j->dG K.c I (iu K.c s i)->Q j):Vi prog (some pm) (some (K.q i)) Q k:=by
 unfold Vi;have b7:=mc.procs;obtain ⟨h7,J,b9,b0,l7,Z,a8,ow,a9⟩:=o.jj w;have P:J.eD=some b0:=Z.2.2.2.2.2;refine aY (a8.ld (shf:=aj) J.eD rfl ?_);refine aY (o.ft.ld (shf:=ab .i64) s.tick rfl ?_);rw [P];refine S5 (ab5 ow (by omega) λsl k2 ids A Y X o2=> ?_);have f:Has h0 ((aK K pm s (cN b i (od (b i) s.tick))).star (eu 1 fZ sl ids)) k2:=o2.carry λj d=>a9 _ j d;obtain ⟨r,G,o7,E⟩:=f.aside (λ_=>rfl);have m6:=m.mono G;have b2:ids.length<=2*nQ K.c:=wM (2*nQ K.c) ids Y A;have b4:=E.1;refine aA.intro (λ(t:Int) j=>0<=t/\t<=(ids.length:Int)/\Has r (aK K pm (mu s (ids.take t.toNat)) (cN b i (od (b i) s.tick))) j) (λt _=>(ids.length-t).toNat) ⟨by omega,by omega,by
  have e:mu s (ids.take (0:Int).toNat)=s:=by unfold mu j6;simp
  rw [e];exact o7⟩ ?_
 rintro t j ⟨t0,t1,d⟩;by_cases h:t<(ids.length:Int)
 ·rw [if_pos (decide_eq_true (by omega))];refine cC.direct ?_;refine Rs.get (sh:=ab .i64) (Rw.mono d.le E) (λ_=>rfl) (by omega) t0 h λ(g:Int) v=> ?_;have V:=A g (List.mem_of_getElem? v);have u:g.toNat / 2<nQ K.c:=by omega
  have T:yw (Int.tdiv g 2)=((g.toNat / 2:Nat):Int):=by rw [Int.tdiv_eq_ediv_of_nonneg V.1,wrap64 (by omega) (by omega)];omega
  have b6:g∉ids.take t.toNat:=by
   intro b3;obtain ⟨b5,U⟩:=List.getElem?_eq_some_iff.1 v;have b8:ids=ids.take t.toNat++g::ids.drop (t.toNat+1):=by rw [<-U,List.getElem_cons_drop,List.take_append_drop]
   grind
  generalize b1:g.toNat / 2=q at*;obtain ⟨R,S⟩:=m6.ptr d u;refine aY (d.ft.ld (shf:=an) K.x.procs rfl ⟨by decide,?_⟩);rw [T];refine ⟨R,some (K.p q),S,?_⟩;obtain ⟨h2,z,a,l2,n,C,put⟩:=d.dN u;have M:z.dP=(q:Int):=n.1;refine aY (C.ld (shf:=ab .i64) z.dP rfl ?_);rw [M];refine Js (zf (by omega) ?_);have step:∀ {y:ak} {l:Hp},se y=se (j6 (ids.take t.toNat++ [g]) q (s.proc q))->Has r (aK K pm ((mu s (ids.take t.toNat)).aO q y) (cN b i (od (b i) s.tick))) l->
    (0<=yw (t+1)/\yw (t+1)<=(ids.length:Int)/\Has r (aK K pm (mu s (ids.take (yw (t+1)).toNat)) (cN b i (od (b i) s.tick))) l)/\(ids.length-yw (t+1)).toNat<(ids.length-t).toNat:=by
   intro y l hy f;rw [wrap64 (by omega) (by omega)];refine ⟨⟨by omega,by omega,?_⟩,by omega⟩;have e:(t+1).toNat=t.toNat+1:=by omega
   rw [e,List.take_add_one,v];show Has r (aK K pm (mu s (ids.take t.toNat++ [g])) _) l;rw [Gr,<-ZW (q:=q) (y:=y) (by omega) hy,<-Gr];exact f
  by_cases B:g=((2*q+1:Nat):Int)
  ·rw [if_pos (by rw [B];simp)];have O:((mu s (ids.take t.toNat)).proc q).pc=(s.proc q).pc:=by show (j6 (ids.take t.toNat) q (s.proc q)).pc=_;unfold j6;rw [if_neg (c:=((2*q+1:Nat):Int)∈_) (by grind)];split<;>rfl
   have e:gM (eZ z)=((mu s (ids.take t.toNat)).proc q).core:=n.2.2.2.2.1;have N:(eZ z).PC=(s.proc q).pc:=(congrArg Core.pc e).trans O;refine aY (C.ld (shf:=fE) (eZ z) rfl ?_);refine DZ (sP (by rw [N];exact sa.told u) λc' L=> ?_);refine SJ (C7 d u λl f=>step ?_ f);rw [L,e,B,ZV (by grind)];rfl
  ·rw [if_neg (by simpa using B)];have F:g=((2*q:Nat):Int):=by omega
   refine aY (C.st (uN z true) (by show 13+1<=15;omega) rfl λl f=> ?_);have D:z.state=((mu s (ids.take t.toNat)).proc q).state:=n.2.2.2.1;refine aY (f.ld (shf:=ab .i64) z.state rfl ?_);by_cases h1:z.state=1
   ·rw [if_pos (by rw [h1];rfl)];refine aY (f.st (pa (uN z true) 0) (by show 3+1<=15;omega) rfl λk4 o4=> ?_);refine step ?_ (put _ _ _ ((n.bN true).state 0) rfl rfl o4);rw [F,I5 (by grind)];unfold sy;rw [if_pos (by rw [<-h1,D];rfl)];rfl
   ·rw [if_neg (by simpa using h1)];refine step ?_ (put _ _ _ (n.bN true) rfl rfl f);rw [F,I5 (by grind)];unfold sy;rw [if_neg (by rw [D] at h1;exact h1)];rfl
 ·rw [if_neg (λe=>h (by grind))];have e:t.toNat=ids.length:=by omega
  rw [e,List.take_of_length_le (Nat.le_refl _),acs H w A X] at d;exact W _ j (d.mono G) (H.due w)
end
section
variable {c:aW} {fl:Nat->Nat->Bool} {s:MS} {T:Int}
theorem Good.om (m:cH c) (g:Good c fl s No No T):j5 c s where
 proc:=λp hp=>by
  have pm:=g.proc p hp;have G:=m.mq (p:=p);have H:=m.lane;have e:=m.procs;refine ⟨by have:=pm.pc;omega,pm.mJ,pm.cur,λl a=> ?_⟩;obtain ⟨i,f,n⟩:=List.getElem_of_mem a;have d:(s.proc p).ag[i]? =some l:=by grind
  obtain ⟨a1,a2,a3,_⟩:=pm.eJ i l d;obtain ⟨b,j,o⟩:=g.eJ p hp i l d;have B:∀w∈l.waiters,0<=w.proc/\w.proc<(nQ c:Int):=λw A=>by obtain ⟨r,t,_⟩:=o w A;omega
  have y:=wM (nQ c) (l.waiters.map (·.proc)) b λx I=>by grind
  rw [List.length_map] at y;exact ⟨by omega,by omega,a2,a3,b,B⟩
 part:=λi f=>by
  have pm:=g.part i f;have u:=m.log;have D:=m.ai;have E:=m.procs;have F:(eK c i).length<=nQ c:=by have u:(eK c i).length<=(List.range (nQ c)).length:=List.length_filter_le ..;grind
  have e:∀q∈(s.part i).au,q.Nodup/\∀z∈q,0<=z/\z<(nQ c:Int):=λq a=>by
   obtain ⟨k,v,n⟩:=List.getElem_of_mem a;have d:(s.part i).au[k]? =some q:=by rw [List.getElem?_eq_getElem v,n]
   obtain ⟨b,j,_⟩:=g.iZ i f k q d;exact ⟨b,λz C=>by obtain ⟨r,t,_⟩:=j z C;omega⟩
  refine ⟨⟨pm.cur.1,?_⟩,by have:=pm.kz;omega,pm.lost,pm.lT,by have:=pm.ij;have:=pm.ja;omega,pm.ja,⟨by have:=pm.ja;omega,λq a=> ?_⟩,e⟩
  ·by_cases h:0<(s.part i).af
   ·have:=pm.cur.2 h;omega
   ·omega
  ·have:=wM (nQ c) q (e q a).1 (e q a).2;omega
theorem acv {i t:Nat} (g:t<(eK c i).length) (j:∀k,k<t->(s.proc ((eK c i).getD (((s.part i).af.toNat+k)%(eK c i).length) 0)).state≠0) (h:(s.proc ((eK c i).getD (((s.part i).af.toNat+t)%(eK c i).length) 0)).state=0):
  iP c s i=some (((s.part i).af.toNat+t)%(eK c i).length):=by
 unfold iP;have e:List.range (eK c i).length=List.range t++(t::(List.range (eK c i).length).drop (t+1)):=by
  have a:(List.range (eK c i).length)[t]? =some t:=List.getElem?_range g;obtain ⟨b,d⟩:=List.getElem?_eq_some_iff.1 a;have f:List.take t (List.range (eK c i).length)=List.range t:=by rw [List.take_range,Nat.min_eq_left (by omega)]
  calc List.range (eK c i).length=(List.range (eK c i).length).take t++(List.range (eK c i).length).drop t:=(List.take_append_drop t _).symm
   _=_:=by rw [f,List.drop_eq_getElem_cons b,d]
 grind
theorem acx {i:Nat} (a:∀k,k<(eK c i).length->(s.proc ((eK c i).getD (((s.part i).af.toNat+k)%(eK c i).length) 0)).state≠0):iP c s i=none:=by unfold iP;grind
theorem T3 {D:Int->Int->Int->Int} {i a n:Nat} (h:iP c s i=some a):me c D fl i (n+1) s=me c D fl i n (jU c D fl s i a):=by
 have e:me c D fl i (n+1) s=(match iP c s i with
  | none=>s
  | some a=>me c D fl i n (jU c D fl s i a)):=rfl
 rw [e,h]
theorem Good.CE (g:Good c fl s No No T) {p:Nat} (r:(s.proc p).state=0):(∀q,q<nQ c->∀l∈(s.proc q).ag,∀z∈l.waiters,z.proc≠(p:Int))/\∀i,i<nP c->∀q∈(s.part i).au,(p:Int)∉q:=by
 have h:Out s No No p:=xh ⟨by omega,by omega⟩;refine ⟨λq b l m w o e=> ?_,λi f q b n=> ?_⟩
 ·obtain ⟨i,f,d⟩:=List.getElem_of_mem m;have a:(s.proc q).ag[i]? =some l:=by grind
  exact ((g.eJ q b i l a).2.2 w o).out h (by omega)
 ·obtain ⟨k,j,d⟩:=List.getElem_of_mem b;have a:(s.part i).au[k]? =some q:=by rw [List.getElem?_eq_getElem j,d]
  exact ((g.iZ i f k q a).2.1 _ n).out h (by omega)
end
section
variable {h0 h1 k:Hp} {K:MK} {pm:Addr} {s:MS} {b:Nat->Nat->Int}
theorem KG {p:Int} {Q:Int->Hp->Prop} (m:dC h0 K) (l:cH K.c) (o:Has h0 (aK K pm s b) k) (q:j5 K.c s) (r:dG K.c b s) (d:∀i a,Has h0 (aK K pm (iN K.c s p).1 i) a->dG K.c i (iN K.c s p).1->Q (iN K.c s p).2 a):UF prog (some pm) p Q k:=by
 unfold UF;refine zlp (IZ m o ?_);unfold iN at d;by_cases h:qM K.c s p≠0
 ·grind
 rw [if_neg (by simpa using h)];rw [if_neg h] at d;obtain ⟨t,e,u⟩:=Fw (Classical.not_not.1 h);have j:((p.toNat:Nat):Int)=p:=by omega
 obtain ⟨f,g⟩:=m.ptr o e;rw [j] at f g;refine aY (o.ft.ld (shf:=an) K.x.procs rfl ⟨f,some (K.p p.toNat),g,?_⟩);exact zmv (KC m l o q e λa n=>d _ a n (r.ended e))
theorem Rv {t:Int} {Q:Int->Hp->Prop} (m:dC k K) (u:cH K.c) (o:0<=t) (f:Q (iU K.c t:Int) k):Wq prog (some K.sl) t Q k:=by
 unfold Wq;obtain ⟨sl,n,h,e⟩:=m.s2;have g:=u.table;have q:=e.1;have r:0<K.c.table.length:=List.length_pos_iff.2 g.1;have ld:∀ {a:Sl->Prop},a sl->aQ none an k (K.sl.add 0) a:=λ{a} p=>⟨sl,λj v hv=>by
  cases j with
  | zero=>have:=h 0 v (by simpa [bu,Sl.v] using hv);rw [s6];exact this
  | succ j=>simp [bu] at hv,p⟩
 rw [if_neg (by simp;omega)];refine aY (ld (aY (ld ⟨by omega,?_⟩)));have l:Int.tmod t ((sl.len:Nat):Int)=((t.toNat%K.c.table.length:Nat):Int):=by rw [Int.tmod_eq_emod_of_nonneg o,q,Int.natCast_emod];congr 1;omega
 rw [l];have w:t.toNat%K.c.table.length<K.c.table.length:=Nat.mod_lt _ r;refine Rs.get (sh:=ab .i64) e (λ_=>rfl) (by omega) (by omega) (by omega) λ(x:Int) d=> ?_;rw [Int.toNat_natCast] at d;unfold iU at f;have i:K.c.table.getD (t.toNat%K.c.table.length) 0=x:=by simp [List.getD,d]
 rw [i] at f;have:=g.2.2 x (List.mem_of_getElem? d);grind
theorem KH {Q:Int->Hp->Prop} (tk:zd) (m:dC h0 K) (l:cH K.c) (o:Has h0 (aK K pm s b) k) (g:Good K.c (iE K.c) s No No s.tick) (ht:s.tick<4611686018427387904) (td:dG K.c b s)
  (P:∀r u,Has h0 (aK K pm (jm K.c gx (iE K.c) s) r) u->dG K.c r (jm K.c gx (iE K.c) s)->Q (iU K.c s.tick:Int) u):NU prog (some pm) Q k:=by
 unfold NU;have b4:=g.tick;have d8:=l.fuel;have n:=l.jP (t:=s.tick);have d9:=l.procs;refine aY (o.ft.ld (shf:=aj) K.x.rD rfl ?_);refine aY (o.ft.ld (shf:=ab .i64) s.tick rfl ?_);rw [m.s1];refine Rn (Rv (m.mono o.le) l b4 ?_);have b2:jm K.c gx (iE K.c) s=⟨(me K.c gx (iE K.c) (iU K.c s.tick) K.c.fuel.toNat (iu K.c s (iU K.c s.tick))).tick+1,(me K.c gx (iE K.c) (iU K.c s.tick) K.c.fuel.toNat (iu K.c s (iU K.c s.tick))).part,(me K.c gx (iE K.c) (iU K.c s.tick) K.c.fuel.toNat (iu K.c s (iU K.c s.tick))).proc⟩:=rfl;rw [b2] at P;generalize iU K.c s.tick=i at*;obtain ⟨g1,g2⟩:=m.uw o n;refine aY (o.ft.ld (shf:=an) K.x.parts rfl ⟨g1,some (K.q i),g2,?_⟩);have gd:=(g.rN (T':=s.tick+1) (by omega)).due (i:=i);refine zyp (adW m l o (g.om l) n td λd1 k1 Y c8=> ?_);have a9:K.x.ir=K.c.fuel:=m.cfg.fuel;have H:(iu K.c s i).tick=s.tick:=rfl;generalize iu K.c s i=s1 at*;refine aY ?_;rw [s6];refine Y.ft.ld (shf:=ab .i64) K.x.ir rfl ?_;rw [a9];obtain ⟨d5,d0⟩:=Good.turns (D:=gx) l n K.c.fuel.toNat gd (by rw [H]);refine cC.intro (λu=>∃r,Has h0 (aK K pm (me K.c gx (iE K.c) i K.c.fuel.toNat s1) r) u/\dG K.c r (me K.c gx (iE K.c) i K.c.fuel.toNat s1)) ?_ ?_
 ·refine aA.intro (λ(t:Int) u=>0<=t/\t<=K.c.fuel/\∃d r,Has h0 (aK K pm d r) u/\dG K.c r d/\Good K.c (iE K.c) d No No (s.tick+1)/\d.tick=s.tick/\me K.c gx (iE K.c) i (K.c.fuel-t).toNat d=me K.c gx (iE K.c) i K.c.fuel.toNat s1) (λt _=>(K.c.fuel-t).toNat) ⟨by omega,by omega,s1,d1,Y,c8,gd,H,by rw [Int.sub_zero]⟩ ?_;rintro t u ⟨t0,t1,d,r,y,c7,F,O,A⟩;by_cases h:t<K.c.fuel
  ·rw [if_pos (decide_eq_true h)];have S:=(m.own i n).mono y.le;have J:=S.1;rw [List.length_map] at J;have d7:(eK K.c i).length<=1000:=by have h1:(eK K.c i).length<=(List.range (nQ K.c)).length:=List.length_filter_le ..;grind
   have en:(K.c.fuel-t).toNat=(K.c.fuel-(t+1)).toNat+1:=by omega
   rw [en] at A;have si:=(F.om l).part i n;have d6:=si.cur;obtain ⟨h3,x,lp,wp,l3,U,C,_⟩:=y.tJ n;have E:x.procs=K.own i:=U.1;have ec:x.af=(d.part i).af:=U.2.1;refine aY (C.ld (shf:=an) x.procs rfl ?_);rw [E];refine aA.intro (λ(j:Int) W=>W=u/\0<=j/\j<=((eK K.c i).length:Int)/\∀B,B<j.toNat->(d.proc ((eK K.c i).getD (((d.part i).af.toNat+B)%(eK K.c i).length) 0)).state≠0) (λj _=>((eK K.c i).length-j).toNat) ⟨rfl,by omega,by omega,λB b8=>by omega⟩ ?_;rintro j _ ⟨rfl,j0,j1,R⟩;by_cases hj:j<((eK K.c i).length:Int)
   ·rw [if_pos (decide_eq_true (by omega))];refine aY (C.ld (shf:=ab .i64) x.af rfl ?_);refine aY (C.ld (shf:=an) x.procs rfl ?_);rw [E,ec];have b5:Int.tmod (yw ((d.part i).af+j)) (((K.own i).len:Nat):Int)=((((d.part i).af.toNat+j.toNat)%(eK K.c i).length:Nat):Int):=by rw [wrap64 (by omega) (by omega),Int.tmod_eq_emod_of_nonneg (by omega),J,Int.natCast_emod];grind
    rw [b5];have I:((d.part i).af.toNat+j.toNat)%(eK K.c i).length<(eK K.c i).length:=Nat.mod_lt _ (by omega);refine ⟨by omega,?_⟩;refine aY (y.ft.ld (shf:=an) K.x.procs rfl ?_);refine aY (C.ld (shf:=an) x.procs rfl ?_);rw [E];generalize ha:((d.part i).af.toNat+j.toNat)%(eK K.c i).length=a at I ⊢;refine Rs.get (sh:=ab .i64) S (λ_=>rfl) (by omega) (by omega) (by grind) λ(q':Int) v=> ?_;rw [Int.toNat_natCast,List.getElem?_map] at v;have b7:=List.getElem?_eq_getElem I;rw [b7] at v;have v:((eK K.c i)[a]:Int)=q':=Option.some.inj v;have b0:(eK K.c i).getD a 0=(eK K.c i)[a]:=by grind
    have L:(eK K.c i)[a]∈eK K.c i:=List.getElem_mem I;rw [<-b0] at v L;generalize c1:(eK K.c i).getD a 0=q at v L;subst v;obtain ⟨G,c0⟩:=gv.1 L;obtain ⟨g5,g6⟩:=m.ptr y G;refine ⟨g5,some (K.p q),g6,?_⟩;obtain ⟨h4,z,ad,l4,hz,oz,_⟩:=y.dN G;refine aY (oz.ld (shf:=ab .i64) z.state rfl ?_);have b1:z.state=(d.proc q).state:=hz.2.2.2.1;rw [b1];by_cases M:(d.proc q).state=0
    ·rw [if_pos (by rw [M];rfl)];refine aY (C.ld (shf:=an) x.procs rfl ?_);rw [E];have b6:Int.tmod (yw (((a:Nat):Int)+1)) (((K.own i).len:Nat):Int)=((a+1:Nat):Int)%((eK K.c i).length:Int):=by rw [wrap64 (by omega) (by omega),Int.tmod_eq_emod_of_nonneg (by omega),J];congr 1
     rw [b6];refine ⟨by omega,?_⟩;have T:iP K.c d i=some a:=by
      have:=acv (c:=K.c) (s:=d) (i:=i) (t:=j.toNat) (by omega) R (by grind)
      rwa [ha] at this
     obtain ⟨h6,f,e1,e3,l6,V,c4,c5⟩:=y.tJ n;refine aY (c4.st (⟨f.procs,((a+1:Nat):Int)%((eK K.c i).length:Int),f.log,f.lost,f.forbidden,f.ai,f.eD⟩:bC) (by show 1+1<=7;omega) rfl λX N=> ?_);have o4:=c5 (⟨f.procs,((a+1:Nat):Int)%((eK K.c i).length:Int),f.log,f.lost,f.forbidden,f.ai,f.eD⟩:bC) {d.part i with af:=((a+1:Nat):Int)%((eK K.c i).length:Int)} _ ⟨V.1,rfl,V.2.2⟩ rfl rfl rfl rfl N;have w:=F.part i n;have gc:Good K.c (iE K.c) (d.dz i {d.part i with af:=((a+1:Nat):Int)%((eK K.c i).length:Int)}) No No (s.tick+1):=by refine F.parts ⟨⟨Int.emod_nonneg _ (by omega),λ_=>Int.emod_lt_of_pos _ (by omega)⟩,w.kz,w.log,w.lost,w.lT,w.full,w.ij,w.ja⟩ rfl rfl
     obtain ⟨c2,c3⟩:=gc.CE (p:=q) M;have gt:=F.CQ (D:=gx) l n (by rw [O]) T;have d4:(jU K.c gx (iE K.c) d i a).tick=d.tick:=DD;have b3:jU K.c gx (iE K.c) d i a=tx K.c gx (iE K.c) (d.dz i {d.part i with af:=((a+1:Nat):Int)%((eK K.c i).length:Int)}) q:=by unfold jU;rw [c1]
     refine zxf (acq tk m l o4 (gc.om l) G (by show 0<=d.tick/\d.tick<=_;rw [O];omega) (gc.proc q G).bJ c2 (c3 _ (by rw [c0];exact n)) (c7.cW rfl) λd3 k5 o5 a8=> ?_);rw [<-b3] at o5 a8;rw [wrap64 (by omega) (by omega)];refine ⟨⟨by omega,by omega,_,d3,o5,a8,gt,by omega,?_⟩,by omega⟩;rw [<-A];exact (T3 T).symm
    ·rw [if_neg (by simpa using M),wrap64 (by omega) (by omega)];grind
   ·rw [if_neg (λe=>hj (by have:=of_decide_eq_true e;omega))];have b9:=acx (c:=K.c) (s:=d) (i:=i) λB b8=>R B (by omega);have e2:me K.c gx (iE K.c) i ((K.c.fuel-(t+1)).toNat+1) d=d:=by unfold me;rw [b9]
    grind
  ·rw [if_neg (λe=>h (of_decide_eq_true e))];have e0:(K.c.fuel-t).toNat=0:=by omega
   rw [e0] at A;have A:d=_:=A;grind
 ·rintro W ⟨d2,Z,c9⟩;rw [H] at d0;generalize me K.c gx (iE K.c) i K.c.fuel.toNat s1=s2 at*;refine aY (Z.ft.ld (shf:=ab .i64) s2.tick rfl ?_);obtain ⟨h7,l7,o7,_,c6⟩:=Z.fst;rw [wrap64 (by omega) (by omega)];refine aY (o7.st (rH K.x (s2.tick+1)) (by show 9+1<=12;omega) rfl λX N=> ?_);exact P d2 X (c6 _ _ N) c9
end
section
variable {c:aW} {fl:Nat->Nat->Bool} {s:MS} {T:Int}
theorem jK {i:Nat} {x:dt}:(s.list c).parts[i]? =some x↔i<nP c/\x=s.part i:=by
 show ((List.range (nP c)).map s.part)[i]? =some x↔_;rw [List.getElem?_map];by_cases h:i<nP c
 ·rw [List.getElem?_range h];constructor
  ·intro e;exact ⟨h,(Option.some.inj e).symm⟩
  ·rintro ⟨_,rfl⟩;rfl
 ·rw [List.getElem?_eq_none (by rw [List.length_range];omega)];constructor
  ·intro e;cases e
  ·intro e;exact absurd e.1 h
theorem iG {i:Nat} {x:ak}:(s.list c).procs[i]? =some x↔i<nQ c/\x=s.proc i:=by
 show ((List.range (nQ c)).map s.proc)[i]? =some x↔_;rw [List.getElem?_map];by_cases h:i<nQ c
 ·rw [List.getElem?_range h];constructor
  ·intro e;exact ⟨h,(Option.some.inj e).symm⟩
  ·rintro ⟨_,rfl⟩;rfl
 ·rw [List.getElem?_eq_none (by rw [List.length_range];omega)];constructor
  ·intro e;cases e
  ·intro e;exact absurd e.1 h
theorem uW (m:cH c) {p:Nat} (hp:p<nQ c):∃y,c.procs[p]? =some y/\y.part=(aB c p:Int)/\y.code=gG c p:=by
 have h:=List.getElem?_eq_getElem (show p<c.procs.length from hp);refine ⟨_,h,?_,?_⟩
 ·have:=m.part _ (List.mem_of_getElem? h);unfold aB;rw [h];simp;omega
 ·unfold gG;rw [h];rfl
theorem wX {y:jH} {p:Nat} {x:ak} (h:y.code=gG c p):re y x.pc=eA c p x:=by unfold re eA ie;rw [h]
theorem uY (m:cH c) {p:Int} {i:Nat}:Gc c p i↔0<=p/\p.toNat<nQ c/\aB c p.toNat=i:=by
 unfold Gc;constructor
 ·rintro ⟨d,y,b,f⟩;have hp:p.toNat<nQ c:=(List.getElem?_eq_some_iff.1 b).1;obtain ⟨g,a,e,_⟩:=uW m hp;rw [b] at a;cases a;exact ⟨d,hp,by omega⟩
 ·rintro ⟨d,b,f⟩;obtain ⟨g,a,e,_⟩:=uW m b;exact ⟨d,g,a,by rw [e,f]⟩
theorem LX (m:cH c) {i:Nat}:vC c i=(eK c i).length:=by
 have e:c.procs=(List.range c.procs.length).map λq=>c.procs.getD q ⟨0,[]⟩:=by
  refine List.ext_getElem? λj=> ?_;rw [List.getElem?_map];by_cases h:j<c.procs.length
  ·rw [List.getElem?_range h,List.getElem?_eq_getElem h];simp [List.getD,List.getElem?_eq_getElem h]
  ·rw [List.getElem?_eq_none (by omega),List.getElem?_eq_none (by rw [List.length_range];omega)];rfl
 unfold vC eK;rw [e,List.filter_map,List.length_map];congr 1;refine List.filter_congr λq a=> ?_;have a:q<nQ c:=List.mem_range.1 a;obtain ⟨y,b,d,_⟩:=uW m a;have f:c.procs.getD q ⟨0,[]⟩=y:=by simp [List.getD,b]
 show decide ((c.procs.getD q ⟨0,[]⟩).part=(i:Int))=decide (aB c q=i);rw [f,d];by_cases h:aB c q=i
 ·rw [decide_eq_true h,decide_eq_true (by omega)]
 ·rw [decide_eq_false h,decide_eq_false (by omega)]
theorem MI (m:cH c) {i:Nat} {st:fA} (j:st.tick=T):∀ {l:List qI} {last:Int},l.Pairwise (λa b=>a.tick<=b.tick)->(∀e∈l,last<=e.tick/\e.tick<T/\0<=e.proc/\e.proc.toNat<nQ c/\aB c e.proc.toNat=i)->xo c st i last l
 | [],_,_,_=>trivial
 | e::r,last,h,g=>by obtain ⟨k,n⟩:=List.pairwise_cons.1 h;obtain ⟨a1,a2,a3⟩:=g e (List.mem_cons_self ..);refine ⟨a1,by rw [j];exact a2,(uY m).2 a3,MI m j n λd f=>⟨k d f,(g d (List.mem_cons_of_mem _ f)).2⟩⟩
theorem I7 {l:List Int} {z:Int} (nd:l.Nodup) (h:z∈l):l.countP (λy=>decide (y=z))=1:=by
 induction l with
 | nil=>cases h
 | cons a l d=>
  rw [List.nodup_cons] at nd;rw [List.countP_cons];rcases List.mem_cons.1 h with rfl | h
  ·have:l.countP (λy=>decide (y=z))=0:=by rw [List.countP_eq_zero];intro y b;simp;exact λe=>nd.1 (e▸b)
   rw [this];simp
  ·rw [d nd.2 h];have:a≠z:=λe=>nd.1 (e▸h);simp [this]
theorem Gz {l:List Int} {z:Int} (h:z∉l):l.countP (λy=>decide (y=z))=0:=by rw [List.countP_eq_zero];intro y a;simp;exact λe=>h (e▸a)
theorem FF {p:Int} {x:dt} (h:∀q∈x.au,p∉q):nn p x=0:=by unfold nn;rw [List.sum_eq_zero_iff_forall_eq_nat];intro y b;obtain ⟨q,a,rfl⟩:=List.mem_map.1 b;exact Gz (h q a)
theorem wY {p:Int} {l:bH}:vo p l=(l.waiters.map (·.proc)).countP λy=>decide (y=p):=by unfold vo;rw [List.countP_map];rfl
theorem FG {p:Int} {x:ak} (h:∀l∈x.ag,∀w∈l.waiters,w.proc≠p):nm p x=0:=by unfold nm;rw [List.sum_eq_zero_iff_forall_eq_nat];intro y f;obtain ⟨l,a,rfl⟩:=List.mem_map.1 f;rw [wY];refine Gz λb=> ?_;obtain ⟨w,d,e⟩:=List.mem_map.1 b;exact h l a w d e
end
section
variable {c:aW} {fl:Nat->Nat->Bool} {s:MS} {T:Int}
theorem I8 {i:Nat} (h:i<nP c):(s.list c).parts[i]? =some (s.part i):=jK.2 ⟨h,rfl⟩
theorem yK {i:Nat} (h:i<nQ c):(s.list c).procs[i]? =some (s.proc i):=iG.2 ⟨h,rfl⟩
theorem adY {p:Int} (h:p.toNat<nQ c) {q:ak->Prop} (a:q (s.proc p.toNat)):O9 (s.list c) p q:=⟨_,yK h,a⟩
theorem zF (m:cH c) {p:Int} (h:p.toNat<nQ c) {n:eT} (d:eA c p.toNat (s.proc p.toNat)=some n) {q:ak->eT->Prop} (e:q (s.proc p.toNat) n):NA c (s.list c) p q:=by obtain ⟨y,a,f,b⟩:=uW m h;exact ⟨_,y,n,yK h,a,by rw [wX b];exact d,e⟩
theorem LY {r:List Int} {i v:Int} (d:r.length=8) (b:0<=i/\i<8) (h:fU r i=v):r[i.toNat]? =some v:=by
 have a:i.toNat<r.length:=by omega
 rw [List.getElem?_eq_getElem a,<-h];unfold fU;grind
theorem Good.waits (m:cH c) (g:Good c fl s No No T):Mr c (s.list c):=by
 refine ⟨λi x a k q hq p hp=> ?_,λr x y a M i l hl w Y=> ?_,λp x a=> ?_⟩
 ·obtain ⟨z,rfl⟩:=jK.1 a;obtain ⟨b1,R,S⟩:=g.iZ i z k q hq;obtain ⟨a1,a2,a3,_,a5⟩:=R p hp;obtain ⟨a5,n,a6,a7,E⟩:=a5.resolve_left (λh=>h);obtain ⟨o,t,u,O⟩:=S (List.ne_nil_of_mem hp);refine ⟨(uY m).2 ⟨a1,a2,a3⟩,zF m a2 a6 ⟨a5,E⟩,o,t,?_,λe=>O (e▸hp)⟩;rcases g.own i z k o t with h | h
  ·exact absurd h u
  ·exact h.1
 ·obtain ⟨G,rfl⟩:=iG.1 a;obtain ⟨y',f1,f2,f3⟩:=uW m G;rw [M] at f1;cases f1;obtain ⟨b1,R,S⟩:=g.eJ r G i l hl;obtain ⟨c1,c2,c3⟩:=R (List.ne_nil_of_mem Y);obtain ⟨a1,a2,a3,_,a5⟩:=S w Y;obtain ⟨a5,n,a6,a7,E,a9⟩:=a5.resolve_left (λh=>h);have b0:=dD.1 (c2.resolve_right (λh=>h));have X:=(g.proc _ a2).bJ;have Z:=VR (m.ins a6).1 a7;exact ⟨by rw [f2,c1],(uY m).2 ⟨a1,a2,a3⟩,b0,c3,zF m a2 a6 ⟨a5,a7,LY X Z.2.1 E,LY X Z.2.2 a9⟩⟩
 ·obtain ⟨hp,rfl⟩:=iG.1 a;have b4:((s.list c).parts.map (nn (p:Int))).sum=if (s.proc p).state=3 then 1 else 0:=by
   by_cases Q:(s.proc p).state=3
   ·rw [if_pos Q];obtain ⟨k,q,t,u⟩:=g.sD p hp (λh=>h) Q;have z:=m.fD (p:=p);rw [wF (nn (p:Int)) _ (aB c p) λj x a J=> ?_,I8 z]
    ·show nn (p:Int) (s.part (aB c p))=1;unfold nn;rw [wF _ _ k λj D K J=> ?_,t]
     ·exact I7 (g.iZ _ z k q t).1 u
     ·refine Gz λB=> ?_;obtain ⟨_,_,_,_,a5⟩:=(g.iZ _ z j D K).2.1 _ B;obtain ⟨_,n1,a6,_,E⟩:=a5.resolve_left (λh=>h);obtain ⟨_,_,_,_,U⟩:=(g.iZ _ z k q t).2.1 _ u;obtain ⟨_,n2,F,_,W⟩:=U.resolve_left (λh=>h);rw [a6] at F;cases F;omega
    ·obtain ⟨d,rfl⟩:=jK.1 a;refine FF λD K B=> ?_;obtain ⟨f,A,b⟩:=List.getElem_of_mem K;have v:(s.part j).au[f]? =some D:=by rw [List.getElem?_eq_getElem A,b]
     have:=((g.iZ j d f D v).2.1 _ B).2.2.1;rw [Int.toNat_natCast] at this;exact J this.symm
   ·rw [if_neg Q,List.sum_eq_zero_iff_forall_eq_nat];intro y M;obtain ⟨x,a,rfl⟩:=List.mem_map.1 M;obtain ⟨j,d,b⟩:=List.getElem_of_mem a;have V:(s.list c).parts[j]? =some x:=by rw [List.getElem?_eq_getElem d,b]
    obtain ⟨d,rfl⟩:=jK.1 V;refine FF λD K B=> ?_;obtain ⟨f,A,b⟩:=List.getElem_of_mem K;have v:(s.part j).au[f]? =some D:=by rw [List.getElem?_eq_getElem A,b]
    obtain ⟨_,_,_,_,a5⟩:=(g.iZ j d f D v).2.1 _ B;have:=(a5.resolve_left (λh=>h)).1;rw [Int.toNat_natCast] at this;exact Q this
  have b7:((s.list c).procs.map (nm (p:Int))).sum=if (s.proc p).state=2 then 1 else 0:=by
   by_cases P:(s.proc p).state=2
   ·rw [if_pos P];obtain ⟨r,G,l,t,w,u,O⟩:=g.sC p hp (λh=>h) P;obtain ⟨d1,d2,d3⟩:=g.eJ r G _ l t;obtain ⟨_,_,_,_,U⟩:=d3 w u;obtain ⟨_,n2,F,_,W,_⟩:=U.resolve_left (λh=>h);rw [O,Int.toNat_natCast] at F W;rw [wF (nm (p:Int)) _ r λj x a J=> ?_,yK G]
    ·show nm (p:Int) (s.proc r)=1;unfold nm;rw [wF _ _ (aB c p) λj C I J=> ?_,t]
     ·show vo (p:Int) l=1;rw [wY];exact I7 d1 (List.mem_map.2 ⟨w,u,O⟩)
     ·rw [wY];refine Gz λB=> ?_;obtain ⟨N,L,H⟩:=List.mem_map.1 B;have:=((g.eJ r G j C I).2.2 N L).2.2.1;rw [H,Int.toNat_natCast] at this;exact J this.symm
    ·obtain ⟨d,rfl⟩:=iG.1 a;refine FG λC I N L H=> ?_;obtain ⟨f,A,b⟩:=List.getElem_of_mem I;have v:(s.proc j).ag[f]? =some C:=by rw [List.getElem?_eq_getElem A,b]
     obtain ⟨_,_,_,_,a5⟩:=(g.eJ j d f C v).2.2 N L;obtain ⟨_,n1,a6,_,E,_⟩:=a5.resolve_left (λh=>h);rw [H,Int.toNat_natCast] at a6 E;rw [a6] at F;cases F;omega
   ·rw [if_neg P,List.sum_eq_zero_iff_forall_eq_nat];intro y M;obtain ⟨x,a,rfl⟩:=List.mem_map.1 M;obtain ⟨j,d,b⟩:=List.getElem_of_mem a;have V:(s.list c).procs[j]? =some x:=by rw [List.getElem?_eq_getElem d,b]
    obtain ⟨d,rfl⟩:=iG.1 V;refine FG λC I N L H=> ?_;obtain ⟨f,A,b⟩:=List.getElem_of_mem I;have v:(s.proc j).ag[f]? =some C:=by rw [List.getElem?_eq_getElem A,b]
    obtain ⟨_,_,_,_,a5⟩:=(g.eJ j d f C v).2.2 N L;have:=(a5.resolve_left (λh=>h)).1;rw [H,Int.toNat_natCast] at this;exact P this
  grind
theorem Good.may (m:cH c) (g:Good c fl s No No s.tick) (q:s.tick<=4611686018427387904):u7 c (s.list c) λi y=>fl i y.toNat=true:=by
 refine ⟨⟨⟨g.tick,q⟩,?_,?_⟩,λi x d=> ?_,λp x y d t=> ?_,g.waits m⟩
 ·show ((List.range (nP c)).map s.part).length=_;rw [List.length_map,List.length_range];rfl
 ·show ((List.range (nQ c)).map s.proc).length=_;rw [List.length_map,List.length_range];rfl
 ·obtain ⟨b,rfl⟩:=jK.1 d;have pm:=g.part i b;refine ⟨⟨pm.cur.1,by rw [LX m];exact pm.cur.2,pm.kz⟩,MI m rfl pm.log.1 λe f=>pm.log.2 e f,pm.lost,pm.lT,pm.full,pm.ij,pm.ja,λp hp o=> ?_⟩;obtain ⟨k,u,f⟩:=List.getElem_of_mem hp;have j:(s.part i).aC[k]? =some p:=by grind
  rcases g.own i b k p j with h | ⟨a1,a2,a3,a4⟩
  ·exact absurd h o
  ·exact ⟨(uY m).2 ⟨a1,a2,a3⟩,adY a2 (dD.1 (a4.resolve_right (λh=>h)))⟩
 ·obtain ⟨hp,rfl⟩:=iG.1 d;obtain ⟨v,f1,f2,f3⟩:=uW m hp;rw [t] at f1;cases f1;have pm:=g.proc p hp;have a:re y (s.proc p).pc=eA c p (s.proc p):=wX f3;refine ⟨pm.st,by rw [f3];exact pm.pc,pm.mJ,pm.cur,pm.nz,pm.nB,pm.oy.resolve_left (λh=>h),λh=>⟨(pm.dead h).1.resolve_left (λh=>h),(pm.dead h).2⟩,λi l n=> ?_,λh=> ?_,λh=> ?_,λh=> ?_,λh=> ?_⟩
  ·obtain ⟨a1,a2,a3,a4⟩:=pm.eJ i l n;refine ⟨a1,a2,a3,λr b=> ?_⟩;rw [f2];show fl i ((aB c p:Nat):Int).toNat=true;rw [Int.toNat_natCast];exact a4 r b
  ·rw [a];exact pm.recv h
  ·rw [a];exact pm.snd h
  ·rw [a];exact pm.qx h
  ·rw [a];exact pm.jS h
end
abbrev xp (l:Sl) (a:List dt):eh:=jY (cm.ok (sh:=aP) (sz:=6) wq) l a
abbrev vg (l:Sl) (a:List ak):eh:=jY (cm.ok (sh:=aF) (sz:=15) wz) l a
section
variable {h0 h1 k:Hp} {K:MK} {pm:Addr} {s:MS} {g:Nat->Nat->Int}
def toE (e:qI):dv:=⟨e.tick,e.proc,e.value⟩
theorem Rz {i:Nat} {Ps:Sl} {ps:List dt} {rest:Sl->Hp->Prop} (mc:cH K.c) (o:Has h0 ((aK K pm s g).star (xp Ps ps)) k) (sa:j5 K.c s) (I:i<nP K.c) (c4:ps.length<=1000)
  (hk:∀z j,Has h0 ((aK K pm s g).star (xp z (ps++ [s.part i]))) j->rest z j):
 ah none (some (K.q i)) λp2=>
 aQ none aj k (Addr.add p2 5) λx3=>
 bF prog NY [(.pointer x3)] an an (λr N l=>
 ah none (some (K.q i)) λp3=>
 aQ none (ab .i64) l (Addr.add p3 1) λw=>
 ah none (some (K.q i)) λp4=>
 aQ none an l (Addr.add p4 2) λx5=>
 ah none (some (K.q i)) λp5=>
 aQ none (ab .i64) l (Addr.add p5 3) λx6=>
 ah none (some (K.q i)) λp6=>
 aQ none (ab .i64) l (Addr.add p6 4) λx7=>
 aa prog Gd [x5.v] an (λr2 m=>
 ((True/\((bG m (Addr.add p3 1) [(.int .i64 w)])/\((bG m (Addr.add p5 3) [(.int .i64 x6)])/\((bG m (Addr.add p6 4) [(.int .i64 x7)])/\True))))/\bP [(.int .i64 w),r2.v,(.int .i64 x6),(.int .i64 x7),r.v,N.v] (λa G=>
 ((True/\True)/\gF 6 96 [(.int .i64 (0:Int)),(.slice none 0 0),(.int .i64 (0:Int)),(.int .i64 (0:Int)),(.slice none 0 0),(.slice none 0 0)] ⟨Ps.base,Ps.len,Ps.cap⟩ ⟨(some a),1,1⟩ (λO h5=>
 rest O h5) G)) m)) l) k:=by
  have A:=sa.part i I;obtain ⟨V,lA,oM,_,gP⟩:=o.fst;obtain ⟨m,w,b0,c7,l4,a9,b8,ol,c0⟩:=oM.rn I;have el:w.ai=some b0:=a9.2.2.2.2.1;refine aY (b8.ld (shf:=aj) w.ai rfl ?_);rw [el];refine Rl (Xj ol ⟨by have:=A.jW.1;omega,A.jW.2⟩ A.ij λP Q W o2=> ?_);have Y:Has V ((aK K pm s g).star ((um P (s.part i).aC).star (xq Q (s.part i).au))) W:=o2.carry λj L=>by
   have G:=c0 _ _ j L;have e:s.dz i {s.part i with aC:=(s.part i).aC,au:=(s.part i).au}=s:=FD
   rwa [e] at G
  obtain ⟨hB,lB,b5,⟨F3,c2,c1⟩,c6⟩:=Y.fst;obtain ⟨h6,x,lp,wp,l6,J,u,b7,_⟩:=b5.Hk I;refine aY (u.ld (shf:=ab .i64) x.af rfl ?_);refine aY (u.ld (shf:=an) x.log rfl ?_);refine aY (u.ld (shf:=ab .i64) x.lost rfl ?_);refine aY (u.ld (shf:=ab .i64) x.forbidden rfl ?_);refine QL ?_;unfold NM;have c3:=A.kz;refine rQ (ae.aM 101 rJ rfl) (b7.jb (λ_=>rfl)) (by decide) (λ_=>rfl) (λ_=>rfl) rfl ⟨by omega,by omega⟩ λR X a8 n3=> ?_;have M:=u.grow a8;refine ⟨⟨trivial,M.fq (n:=1) rfl,M.fq (n:=1) rfl,M.fq (n:=1) rfl,trivial⟩,?_⟩;have b1:Has W (jY (cm.ok (sh:=cK) (sz:=3) (gg.ok λx p=>rR x=p)) R (s.part i).log) X:=n3.jQ (f:=toE) (λ_=>rfl) λ_=>rfl;have Z:=Y.beside b1;have b6:Has V ((aK K pm s g).star (jY wq (⟨x.af,R,x.lost,x.forbidden,P,Q⟩:bf) (s.part i))) X:=by
   obtain ⟨hC,lC,c5,_,_⟩:=Z.assoc.fst;refine Z.assoc.map λkk F hF=> ?_;refine Cd (λ_ h=>h) (λF' h=> ?_) hF;obtain ⟨F1,F2,e,d,⟨F4,F5,B,d',⟨T,r2,b3,D⟩,⟨U,O,b4,E⟩⟩,⟨S,N,b2,C⟩⟩:=h;refine ⟨S++(T++U),⟨S,T,U,rfl,N,r2,O,J.2.1,J.2.2.1,J.2.2.2.1⟩,?_,λb=> ?_⟩
   ·rw [List.nodup_append,List.nodup_append];refine ⟨b2,⟨b3,b4,λa y b hb H=> ?_⟩,λa y b hb H=> ?_⟩
    ·subst H;exact d' a ((D a).2 y) ((E a).2 hb)
    ·subst H;rcases List.mem_append.1 hb with hb | hb
     ·exact d a ((B a).2 (.inl ((D a).2 hb))) ((C a).2 y)
     ·exact d a ((B a).2 (.inr ((E a).2 hb))) ((C a).2 y)
   ·rw [e b,B b,C b,D b,E b,List.mem_append,List.mem_append];constructor
    ·rintro ((h | h) | h)
     ·exact .inr (.inl h)
     ·exact .inr (.inr h)
     ·exact .inl h
    ·rintro (h | h | h)
     ·exact .inr h
     ·exact .inl (.inl h)
     ·exact .inl (.inr h)
  have oF:=(gP _ _ b6).assoc;obtain ⟨hD,lD,oD,_,b9⟩:=oF.snd;have key:=oD.comm.row (cs:=[(.int .i64 x.af),R.v,(.int .i64 x.lost),(.int .i64 x.forbidden),P.v,Q.v]) (zero:=[(.int .i64 (0:Int)),(.slice none 0 0),(.int .i64 (0:Int)),(.int .i64 (0:Int)),(.slice none 0 0),(.slice none 0 0)]) (bytes:=96) rfl (λ_=>rfl) (λ_=>rfl) rfl ⟨by omega,by omega⟩ (K:=rest) λz j L=>hk z j (b9 _ _ L);exact λb t hb=>⟨⟨trivial,trivial⟩,key b t hb⟩
theorem RB {c:aW} {p:Nat} (hp:p<nQ c):nE c s (aB c p) (2*p)=(s.proc p).timer:=by unfold nE;grind
theorem T5 {c:aW} {p:Nat} (hp:p<nQ c):nE c s (aB c p) (2*p+1)=(s.proc p).cQ:=by unfold nE;grind
theorem RD {p:Nat} {Ps:Sl} {ps:List ak} {rest:Sl->Hp->Prop} (m:dC h0 K) (R:cH K.c) (o:Has h0 ((aK K pm s g).star (vg Ps ps)) k) (sa:j5 K.c s) (td:dG K.c g s) (hp:p<nQ K.c) (c7:ps.length<=1000)
  (hk:∀M y,Has h0 ((aK K pm s g).star (vg M (ps++ [s.proc p]))) y->rest M y):
 ah none (some (K.p p)) λp3=>
 aQ none aj k (Addr.add p3 14) λx4=>
 bF prog N4 [(.pointer x4)] an (ab .i64) (λr r1 C=>
 ah none (some pm) λp4=>
 aQ none an C (Addr.add p4 10) λG=>
 ah none (some (K.p p)) λp5=>
 aQ none (ab .i64) C (Addr.add p5 1) λP=>
 ((br G.base G.len P)/\aQ none aj C (sat G.base 1 P) λA=>
 ah none A λp6=>
 aQ none aj C (Addr.add p6 6) λx8=>
 aa prog xe [(.int .i64 (p:Int))] (ab .i64) (λr2 i=>
 (((bG i (Addr.add p4 10) [G.v])/\((bG i (Addr.add p5 1) [(.int .i64 P)])/\((bG i (sat G.base 1 P) [(.pointer A)])/\((bG i (Addr.add p6 6) [(.pointer x8)])/\True))))/\bF prog Gj [(.pointer x8),(.int .i64 r2)] (ab .i64) aR (λr3 r4 D=>
 ah none (some pm) λp7=>
 aQ none an D (Addr.add p7 10) λH=>
 ah none (some (K.p p)) λp8=>
 aQ none (ab .i64) D (Addr.add p8 1) λO=>
 ((br H.base H.len O)/\aQ none aj D (sat H.base 1 O) λa8=>
 ah none a8 λp9=>
 aQ none aj D (Addr.add p9 6) λa9=>
 aa prog xR [(.int .i64 (p:Int))] (ab .i64) (λr5 E=>
 (((bG E (Addr.add p7 10) [H.v])/\((bG E (Addr.add p8 1) [(.int .i64 O)])/\((bG E (sat H.base 1 O) [(.pointer a8)])/\((bG E (Addr.add p9 6) [(.pointer a9)])/\True))))/\bF prog Gj [(.pointer a9),(.int .i64 r5)] (ab .i64) aR (λr6 r7 w=>
 ah none (some (K.p p)) λb5=>
 aQ none (ab .i64) w (Addr.add b5 3) λc1=>
 ah none (some (K.p p)) λb6=>
 aQ none (ab .i64) w (Addr.add (Addr.add b6 4) 0) λc2=>
 ah none (some (K.p p)) λb7=>
 aQ none xf w (Addr.add (Addr.add b7 4) 1) λf=>
 ah none (some (K.p p)) λb8=>
 aQ none aR w (Addr.add b8 13) λc3=>
 bP [(.int .i64 c1),(.int .i64 c2),(.int .i64 f.a0),(.int .i64 f.a1),(.int .i64 f.a2),(.int .i64 f.a3),(.int .i64 f.a4),(.int .i64 f.a5),(.int .i64 f.a6),(.int .i64 f.a7),(.int .i64 r1),(.int .i64 r3),(.bool c3),(.int .i64 r6),r.v] (λa h8=>
 ((True/\True)/\gF 15 136 [(.int .i64 (0:Int)),(.int .i64 (0:Int)),(.int .i64 (0:Int)),(.int .i64 (0:Int)),(.int .i64 (0:Int)),(.int .i64 (0:Int)),(.int .i64 (0:Int)),(.int .i64 (0:Int)),(.int .i64 (0:Int)),(.int .i64 (0:Int)),(.int .i64 (0:Int)),(.int .i64 (0:Int)),(.bool false),(.int .i64 (0:Int)),(.slice none 0 0)] ⟨Ps.base,Ps.len,Ps.cap⟩ ⟨(some a),1,1⟩ (λr8 h9=>
 rest r8 h9) h8)) w) E)) D)) i)) C)) k:=by
  have J:aB K.c p<nP K.c:=R.fD;have c6:=R.procs;have c5:=R.parts;have sp:=sa.proc p hp;have c4:=sp.len;obtain ⟨Y,lA,oM,_,gP⟩:=o.fst;obtain ⟨h1,z,a,l1,hz,oz,oq,put⟩:=oM.oh hp;have b0:z.post=some a:=hz.2.2.2.2.2.2;refine aY (oz.ld (shf:=aj) z.post rfl ?_);rw [b0];refine S1 (Zs oq ⟨by omega,λl Z=>⟨(sp.eJ l Z).waiters,by have:=(sp.eJ l Z).values;omega⟩⟩ λT k2 o2=> ?_);have o3:Has Y ((aK K pm s g).star (u6 T (s.proc p).ag)) k2:=o2.carry λy S=>by
   have i:=put _ _ y S;have e:s.aO p {s.proc p with ag:=(s.proc p).ag,af:=(s.proc p).af}=s:=IY
   rwa [e] at i
  obtain ⟨hB,lB,j,_,_⟩:=o3.fst;have mB:=m.mono (Hp.le_trans lA lB);obtain ⟨h2,d,a2,l2,L,u,_⟩:=j.dN hp;obtain ⟨X,I⟩:=mB.uw j J;obtain ⟨w,A,c8,c0,l7,b3,N,ow,_⟩:=j.jj J;have W:A.eD=some c0:=b3.2.2.2.2.2;have V:d.part=(aB K.c p:Int):=L.2.1;refine aY (j.ft.ld (shf:=an) K.x.parts rfl ?_);refine aY (u.ld (shf:=ab .i64) d.part rfl ?_);have Q:=u.fq (off:=1) (n:=1) (vs:=[.int .i64 d.part]) rfl;rw [V] at Q ⊢;refine ⟨X,some (K.q (aB K.c p)),I,?_⟩;refine aY (N.ld (shf:=aj) A.eD rfl ?_);refine Jr (ze (by omega) ?_);refine ⟨⟨j.ft.fq (n:=1) rfl,Q,I,N.fq (n:=1) rfl,trivial⟩,?_⟩;rw [W];refine zsl (Ku ow λb1=> ?_);refine aY (j.ft.ld (shf:=an) K.x.parts rfl ?_);refine aY (u.ld (shf:=ab .i64) d.part rfl ?_);rw [V];refine ⟨X,some (K.q (aB K.c p)),I,?_⟩;refine aY (N.ld (shf:=aj) A.eD rfl ?_);refine Js (zf (by omega) ?_);refine ⟨⟨j.ft.fq (n:=1) rfl,Q,I,N.fq (n:=1) rfl,trivial⟩,?_⟩;rw [W];refine zsl (Ku ow λb2=> ?_);rw [td _ _ J,td _ _ J,RB hp,T5 hp];refine aY (u.ld (shf:=ab .i64) d.state rfl (aY ?_));rw [s6];refine u.ld (shf:=ab .i64) d.jf rfl (aY ?_);rw [s6];refine u.ld (shf:=xf) (rowOf (eZ d)) rfl (aY ?_);refine u.ld (shf:=aR) d.bN rfl ?_;have U:gM (eZ d)=(s.proc p).core:=L.2.2.2.2.1;have b4:Has Y ((aK K pm s g).star (jY wz (⟨d.state,d.jf,d.fM,d.fN,d.fO,d.fP,d.fQ,d.fR,d.fS,d.fT,(s.proc p).af,(s.proc p).timer,d.bN,(s.proc p).cQ,T⟩:aL) (s.proc p))) k2:=by refine o3.map λkk F hF=> ?_;refine Cd (λ_ h=>h) (λF' h=> ?_) hF;obtain ⟨B,r,nd,e⟩:=h;exact ⟨B,⟨r,L.2.2.2.1,congrArg Core.pc U,congrArg Core.bJ U,rfl,rfl,L.2.2.2.2.2.1,rfl⟩,nd,e⟩
  have oF:=(gP _ _ b4).assoc;obtain ⟨hD,lD,oD,_,b9⟩:=oF.snd;have key:=oD.comm.row (cs:=[(.int .i64 d.state),(.int .i64 d.jf),(.int .i64 d.fM),(.int .i64 d.fN),(.int .i64 d.fO),(.int .i64 d.fP),(.int .i64 d.fQ),(.int .i64 d.fR),(.int .i64 d.fS),(.int .i64 d.fT),(.int .i64 (s.proc p).af),(.int .i64 (s.proc p).timer),(.bool d.bN),(.int .i64 (s.proc p).cQ),T.v]) (zero:=[(.int .i64 (0:Int)),(.int .i64 (0:Int)),(.int .i64 (0:Int)),(.int .i64 (0:Int)),(.int .i64 (0:Int)),(.int .i64 (0:Int)),(.int .i64 (0:Int)),(.int .i64 (0:Int)),(.int .i64 (0:Int)),(.int .i64 (0:Int)),(.int .i64 (0:Int)),(.int .i64 (0:Int)),(.bool false),(.int .i64 (0:Int)),(.slice none 0 0)]) (bytes:=136) rfl (λ_=>rfl) (λ_=>rfl) rfl ⟨by omega,by omega⟩ (K:=rest) λM y S=>hk M y (b9 _ _ S);exact λb t hb=>⟨⟨trivial,trivial⟩,key b t hb⟩
end
section
variable {h0 h1 k:Hp} {K:MK} {pm:Addr} {s:MS} {g:Nat->Nat->Int}
theorem Nq {a:Type} {f:Nat->a} {t:Int} (h:0<=t):(List.range (t+1).toNat).map f=(List.range t.toNat).map f++ [f t.toNat]:=by rw [show (t+1).toNat=t.toNat+1 by omega,List.range_succ,List.map_append];rfl
theorem Z0 {Q:aD->Hp->Prop} (m:dC h0 K) (v:cH K.c) (o:Has h0 (aK K pm s g) k) (P:j5 K.c s) (td:dG K.c g s)
  (W:∀r f,Has h0 ((aK K pm s g).star (jY adu r (s.list K.c))) f->Q r f):Gh prog (some pm) Q k:=by
 unfold Gh;have b5:=v.procs;have b3:=v.parts;have b4:=m.ry;have b6:=m.oi;refine aY (o.ft.ld (shf:=ab .i64) s.tick rfl ?_);refine aY (o.ft.ld (shf:=an) K.x.parts rfl ?_);have b0:Has k (xp (⟨none,0,0⟩:Sl) ([]:List dt)) k:=Has.n7 (okQ:=wq) (Hp.le_refl _);refine dx.intro (λ(t:Int) (st:aD) f=>0<=t/\t<=(nP K.c:Int)/\st.ee=s.tick/\st.aE=⟨none,0,0⟩/\Has h0 ((aK K pm s g).star (xp st.bz ((List.range t.toNat).map s.part))) f) (λt _ _=>(nP K.c-t).toNat) ⟨by omega,by omega,rfl,rfl,by simpa using o.beside b0⟩ ?_;rintro t st M ⟨t0,t1,I,G,w⟩;by_cases h:t<(nP K.c:Int)
 ·rw [if_pos (decide_eq_true (by omega))];have n:t.toNat<nP K.c:=by omega
  have z:((t.toNat:Nat):Int)=t:=by omega
  obtain ⟨i,l⟩:=m.uw (Has.left w) n;rw [z] at i l;refine ⟨i,some (K.q t.toNat),l,?_⟩;refine Rz (Ps:=st.bz) (ps:=(List.range t.toNat).map s.part) v w P n (by rw [List.length_map,List.length_range];omega) λZ f A=> ?_;rw [wrap64 (by omega) (by omega)];refine ⟨⟨by omega,by omega,I,G,?_⟩,by omega⟩;rw [Nq t0];exact A
 ·rw [if_neg (λe=>h (by have:=of_decide_eq_true e;omega))];have z:t.toNat=nP K.c:=by omega
  rw [z] at w;obtain ⟨L,lA,O,hP,b2⟩:=w.fst;have N:=m.mono lA;refine aY (O.ft.ld (shf:=an) K.x.procs rfl ?_);have b1:Has M (vg (⟨none,0,0⟩:Sl) ([]:List ak)) M:=Has.n7 (okQ:=wz) (Hp.le_refl _);refine dx.intro (λ(j:Int) (s1:aD) f=>0<=j/\j<=(nQ K.c:Int)/\s1.ee=s.tick/\s1.bz=st.bz/\Has L ((aK K pm s g).star (vg s1.aE ((List.range j.toNat).map s.proc))) f) (λj _ _=>(nQ K.c-j).toNat) ⟨by omega,by omega,I,rfl,by rw [G];simpa using O.beside b1⟩ ?_;rintro j s1 Y ⟨X,j1,J,H,y⟩;by_cases V:j<(nQ K.c:Int)
  ·rw [if_pos (decide_eq_true (by omega))];have n:j.toNat<nQ K.c:=by omega
   have u:((j.toNat:Nat):Int)=j:=by omega
   obtain ⟨i,l⟩:=N.ptr (Has.left y) n;rw [u] at i l;refine ⟨i,some (K.p j.toNat),l,?_⟩;have key:=RD (Ps:=s1.aE) (ps:=(List.range j.toNat).map s.proc) (rest:=λr8 R=>(0<=yw (j+1)/\yw (j+1)<=(nQ K.c:Int)/\s1.ee=s.tick/\s1.bz=st.bz/\Has L ((aK K pm s g).star (vg r8 ((List.range (yw (j+1)).toNat).map s.proc))) R)/\(nQ K.c-yw (j+1)).toNat<(nQ K.c-j).toNat) N v y P td n (by rw [List.length_map,List.length_range];omega) λZ f A=>by rw [wrap64 (by omega) (by omega)];refine ⟨⟨by omega,by omega,J,H,?_⟩,by omega⟩;rw [Nq X];exact A
   rw [u] at key;exact key
  ·rw [if_neg (λe=>V (by have:=of_decide_eq_true e;omega))];have u:j.toNat=nQ K.c:=by omega
   rw [u] at y;refine W s1 Y ?_;have o3:=(b2 _ _ y).assoc;refine o3.map λkk F S=> ?_;refine Cd (λ_ h=>h) (λF' h=> ?_) S;obtain ⟨F1,F2,e,d,⟨C,r2,a9,E⟩,⟨B,r1,a8,D⟩⟩:=h;refine ⟨B++C,⟨B,C,rfl,by rw [H];exact r1,r2,J⟩,?_,λb=> ?_⟩
   ·rw [List.nodup_append];exact ⟨a8,a9,λa T b hb U=>by subst U;exact d a ((E a).2 hb) ((D a).2 T)⟩
   ·rw [e b,D b,E b,List.mem_append];exact ⟨λh=>h.symm,λh=>h.symm⟩
end
theorem xB {b c:Type} {R:b->c->Hp->List Nat->Prop} (ok:iB R):iB (pv R):=⟨λo a=>pv.same ok o a,λo=>pv.known ok o⟩
abbrev eQ :aS->List Value:=λx=>bu (bq.enc x)
section
variable {α:Type} {h:Hp} {sz:Nat} {enc:α->List Value} {l:Sl} {xs:List α}
theorem acz {b o:Nat} {i:Int}:sat (some ⟨b,o,none⟩) sz i=⟨b,o+i.toNat*sz,none⟩:=by unfold sat;rw [Option.getD_some,kH]
theorem dJ.O7 {F:List Nat} (o:dJ h sz enc l xs F) (e:∀x,(enc x).length=sz) {i:Nat} {x d:α} (q:xs[i]? =some x) {off:Nat} {new:List Value} (M:off+new.length<=sz) (z:enc d=(enc x).take off++new++(enc x).drop (off+new.length))
  {K:Hp->Prop} (w:∀c,dJ c sz enc l (xs.set i d) F->Mv F h F c->K c):da h ((sat l.base sz (i:Int)).add off) new K:=by
 have g:i<xs.length:=by grind
 obtain ⟨D,r,E⟩:=o;rcases E with ⟨_,H,_⟩ | ⟨b,a,j,rfl,B,u,f⟩
 ·omega
 ·rw [j,acz,kH,show ((i:Int)).toNat=i from rfl,Nat.zero_add];have J:i*sz+sz<=l.len*sz:=by have:=Nat.mul_le_mul_right sz (show i+1<=l.len by omega);grind
  have L:l.len*sz<=l.cap*sz:=Nat.mul_le_mul_right sz r;refine rP B (by rw [u];omega) λc C A=> ?_;refine w c ⟨by simp [D],r,.inr ⟨b,_,j,rfl,A,?_,?_⟩⟩ C
  ·grind
  ·have t1:a.take (i*sz)=(xs.take i).flatMap enc:=by rw [Cc e,<-f,List.take_take];congr 1;omega
   have t2:(a.drop (i*sz+sz)).take (l.len*sz-(i*sz+sz))=(xs.drop (i+1)).flatMap enc:=by rw [yV e,<-f,Nat.add_mul,Nat.one_mul,List.drop_take]
   have G:(a.drop (i*sz)).take sz=enc x:=by
    have k:(xs.drop i).flatMap enc=enc x++(xs.drop (i+1)).flatMap enc:=by rw [List.drop_eq_getElem_cons g,List.flatMap_cons];rw [List.getElem?_eq_getElem g] at q;rw [Option.some.inj q]
    have v:(xs.drop i).flatMap enc=(a.drop (i*sz)).take (l.len*sz-i*sz):=by rw [yV e,<-f,List.drop_take]
    rw [v] at k;have I:=congrArg (List.take sz) k;grind
   have m:a=a.take (i*sz)++(enc x++a.drop (i*sz+sz)):=by rw [<-G,<-List.drop_drop,List.take_append_drop,List.take_append_drop]
   have n:(a.take (i*sz)).length=i*sz:=by rw [List.length_take];omega
   have p:(enc x).length=sz:=e x;have s:a.take (i*sz+off)=a.take (i*sz)++(enc x).take off:=by
    conv=>lhs;rw [m]
    rw [List.take_append,n,List.take_of_length_le (by omega),List.take_append,p,show i*sz+off-i*sz=off by omega,show off-sz=0 by omega,List.take_zero,List.append_nil]
   have t:a.drop (i*sz+off+new.length)=(enc x).drop (off+new.length)++a.drop (i*sz+sz):=by
    conv=>lhs;rw [m]
    rw [List.drop_append,n,List.drop_eq_nil_of_le (by omega),List.nil_append,List.drop_append,p,show i*sz+off+new.length-i*sz=off+new.length by omega,show off+new.length-sz=0 by omega,List.drop_zero]
   rw [s,t,show a.take (i*sz)++(enc x).take off++new++((enc x).drop (off+new.length)++a.drop (i*sz+sz))=(a.take (i*sz)++enc d)++a.drop (i*sz+sz) by rw [z];simp];rw [Fo d g];have y:(a.take (i*sz)++enc d).length=i*sz+sz:=by grind
   rw [List.take_append,y,t2,List.take_of_length_le (by omega),t1];simp
end
section
variable {h0 k:Hp}
theorem Has.qB {d:Type} {sz:Nat} {enc:d->List Value} {l:Sl} {c:List d} (o:Has h0 (fB sz enc l c) k) (j:∀x,(enc x).length=sz) {i:Nat} {x x':d} (t:c[i]? =some x) {off:Nat} {new:List Value} (s:off+new.length<=sz) (r:enc x'=(enc x).take off++new++(enc x).drop (off+new.length))
  {K:Hp->Prop} (p:∀a,Has h0 (fB sz enc l (c.set i x')) a->K a):da k ((sat l.base sz (i:Int)).add off) new K:=by
 obtain ⟨q,F,⟨B,h,e⟩,n⟩:=o;refine h.O7 j t s r λa g m=>p a ⟨λb f eb=>m.cW b f (q b f eb) λhb=> ?_,F,⟨B,g,e⟩,n⟩;grind
theorem Has.gA {b:Type} {sz:Nat} {enc:b->List Value} {l:Sl} {a:List b} (o:Has h0 (fB sz enc l a) k) (c:∀x,(enc x).length=sz):Rw k sz enc l a:=by obtain ⟨f,F,⟨B,h,e⟩,d⟩:=o;exact h.rw c
theorem Has.rowsOf {m:Type} {sh:Shape} {sz:Nat} {Q:sh.T->m->Hp->List Nat->Prop} {okQ:iB Q} {l:Sl} {c:List sh.T} {j:List m} (o:Has h0 ((fB sz (λx=>bu (sh.enc x)) l c).star (jY (xB okQ) c j)) k):Has h0 (jY (cm.ok (sh:=sh) (sz:=sz) okQ) l j) k:=by
 refine o.map λw F h=> ?_;obtain ⟨u,v,e,d,⟨f,i,n⟩,⟨g,t,s,p⟩⟩:=h;refine ⟨f++g,⟨c,f,g,rfl,i,t⟩,?_,λb=> ?_⟩
 ·rw [List.nodup_append];exact ⟨i.nodup,s,λa q b hb r=>by subst r;exact d a ((n a).2 q) ((p a).2 hb)⟩
 grind
theorem Z2 {x:az} {c:aW} {Q:az->Hp->Prop} (a:dQ k x c) (hl:c.labels.length<=1000) (ht:c.table.length<=1000) (hp:c.procs.length<=1000) (hc:∀y∈c.procs,y.code.length<=1000)
  (hq:∀r m,Has k ((jY vI r.be c.labels).star ((jY lV r.Table c.table).star (jY ny r.aE c.procs))) m->r.Fuel=c.fuel->r.hZ=c.lane->r.cv=c.ai->r.Log=c.log->Q r m):ZC prog x Q k:=by
 unfold ZC;refine zhi ?_;unfold NN;refine rQ (enc:=λx:Int=>bu ((ab .u64).enc x)) (ae.aM 22 vY rfl) a.labels (by decide) (λ_=>rfl) (λ_=>rfl) rfl ⟨by omega,by omega⟩ λll L l1 n1=> ?_;refine ⟨⟨trivial,trivial,trivial⟩,?_⟩;have a1:=a.mono l1;refine Gg ?_;unfold B0;refine rQ (enc:=λx:Int=>bu ((ab .i64).enc x)) (ae.aM 23 pG rfl) a1.table (by decide) (λ_=>rfl) (λ_=>rfl) rfl ⟨by omega,by omega⟩ λlt w l2 n2=> ?_;refine ⟨⟨trivial,trivial⟩,?_⟩;have a2:=a1.mono l2;obtain ⟨g,b3,G⟩:=a2.procs;have b2:g.length=c.procs.length:=G.len;refine znm ?_;unfold zgu;refine rQ (enc:=eQ) (ae.aM 24 xI rfl) b3 (by decide) (λ_=>rfl) (λ_=>rfl) rfl ⟨by omega,by omega⟩ λlp M l3 N=> ?_;have b9:=(N.gA (λ_=>rfl)).1;have nil:Has M (jY (xB wo) ([]:List aS) ([]:List jH)) M:=Has.sJ (B:=[]) (Hp.le_refl _) rfl .nil λ_ h=>by cases h
 refine aA.intro (λ(t:Int) m=>0<=t/\t<=(g.length:Int)/\∃j:List aS,j.length=t.toNat/\Has w ((fB 2 eQ lp (j++g.drop t.toNat)).star (jY (xB wo) j (c.procs.take t.toNat))) m) (λt _=>(g.length-t).toNat) ⟨by omega,by omega,[],rfl,by simpa using N.beside nil⟩ ?_;rintro t m ⟨S,t1,j,D,o⟩;by_cases h:t<(g.length:Int)
 ·rw [if_pos (decide_eq_true (by omega))];have H:t.toNat<g.length:=by omega
  have b7:((t.toNat:Nat):Int)=t:=by omega
  obtain ⟨h5,l5,oO,_,gC⟩:=o.fst;have s:(j++g.drop t.toNat)[t.toNat]? =some g[t.toNat]:=by grind
  obtain ⟨pc,b1,C,u,I,a9⟩:=G.get (i:=t.toNat) (List.getElem?_eq_getElem H);generalize g[t.toNat]=y at s I C;have b8:u.length<=1000:=by grind
  refine Rs.get (sh:=bq) (oO.gA (λ_=>rfl)) (λ_=>rfl) (by omega) S (by rw [List.length_append,List.length_drop];omega) λ(y':aS) J=> ?_;rw [s] at J;cases J;refine zpi ?_;unfold zhn;refine rQ (enc:=λx=>bu (bn.enc x)) (ae.aM 75 xK rfl) (Rw.mono o.le I) (by decide) (λ_=>rfl) (λ_=>rfl) rfl ⟨by omega,by omega⟩ λn k6 l6 n6=> ?_;have X:∀l:List bc,cZ (λx p=>bD x=p) l (l.map bD):=λl=>by
   induction l with
   | nil=>trivial
   | cons a r ih=>exact ⟨rfl,ih⟩
  have z:Has m (jY vH n pc.code) k6:=by rw [<-a9];obtain ⟨b0,F,⟨B,E,e⟩,hf⟩:=n6;exact Has.sJ b0 ⟨u,B,[],by simp,E,C0 (X u)⟩ E.nodup λb hb=>hf b ((e b).2 hb)
  have oA:=(o.beside z).assoc;obtain ⟨h7,l7,P,_,b6⟩:=oA.fst;have Z:=(Rs.get (sh:=bq) (K:=λ_=>True) (P.gA (λ_=>rfl)) (λ_=>rfl) (by omega) S (by rw [List.length_append,List.length_drop];omega) λ_ _=>trivial).1;refine ⟨⟨trivial,trivial⟩,Z,?_⟩;have key:=P.qB (i:=t.toNat) (x':=(⟨y.Part,n⟩:aS)) (off:=1) (new:=[n.v]) (λ_=>rfl) s (by simp) rfl
   (K:=λW=>(0<=yw (t+1)/\yw (t+1)<=(g.length:Int)/\∃j:List aS,j.length=(yw (t+1)).toNat/\Has w ((fB 2 eQ lp (j++g.drop (yw (t+1)).toNat)).star (jY (xB wo) j (c.procs.take (yw (t+1)).toNat))) W)/\(g.length-yw (t+1)).toNat<(g.length-t).toNat) λk8 O=> ?_
  ·grind
  ·rw [wrap64 (by omega) (by omega)];refine ⟨⟨by omega,by omega,j++ [⟨y.Part,n⟩],by rw [List.length_append,D,List.length_singleton];omega,?_⟩,by omega⟩;have q:(t+1).toNat=t.toNat+1:=by omega
   have U:(j++g.drop t.toNat).set t.toNat (⟨y.Part,n⟩:aS)=(j++ [⟨y.Part,n⟩])++g.drop (t.toNat+1):=by rw [List.set_append_right _ _ (by omega),D,Nat.sub_self,List.drop_eq_getElem_cons H,List.set_cons_zero,List.append_assoc];rfl
   rw [U] at O;have V:c.procs.take (t.toNat+1)=c.procs.take t.toNat++ [pc]:=by rw [List.take_add_one,b1];rfl
   rw [q,V];refine (b6 _ _ O).map λkk F Y=>Cd (λ_ h=>h) (λF' h=> ?_) Y;obtain ⟨F1,F2,e,d,⟨T,r1,b4,f1⟩,⟨A,r2,b5,f2⟩⟩:=h;refine ⟨T++A,pv.snoc (R:=qR) (a:=(⟨y.Part,n⟩:aS)) (b:=pc) (B':=A) ⟨C,r2⟩ r1,?_,λb=> ?_⟩
   ·rw [List.nodup_append];exact ⟨b4,b5,λa ha b hb a8=>by subst a8;exact d a ((f1 a).2 ha) ((f2 a).2 hb)⟩
   grind
 ·rw [if_neg (λe=>h (by grind))];have q:t.toNat=g.length:=by omega
  rw [q,List.drop_length,List.append_nil,b2,List.take_length] at o;have o1:=o.rowsOf (sh:=bq) (okQ:=wo);have oU:Has k (jY vI ll c.labels) L:=n1.jQ (f:=λx=>x) (λ_=>rfl) λ_=>rfl;have z:Has L (jY lV lt c.table) w:=n2.jQ (f:=λx=>x) (λ_=>rfl) λ_=>rfl;exact hq _ m ((oU.beside z).beside o1).assoc a.fuel a.lane a.ai a.log
end
section
variable {h0 k:Hp} {K:MK} {pm:Addr} {s:MS} {f:Nat->Nat->Int}
theorem GU {r:az} {c:aW} (o:Has h0 ((jY vI r.be c.labels).star ((jY lV r.Table c.table).star (jY ny r.aE c.procs))) k) (q:r.Fuel=c.fuel) (t:r.hZ=c.lane) (u:r.cv=c.ai) (v:r.Log=c.log):Has h0 (jY Hg r c) k:=by
 refine o.map λG F h=> ?_;obtain ⟨B,C,e,d,⟨l,z,w,f1⟩,⟨D,E,i,p,⟨m,r2,x,f2⟩,⟨n,A,y,f3⟩⟩⟩:=h;refine ⟨l++(m++n),⟨l,m,n,rfl,z,r2,A,q,t,u,v⟩,?_,λb=> ?_⟩
 ·rw [List.nodup_append,List.nodup_append];refine ⟨w,⟨x,y,λa g b hb j=> ?_⟩,λa g b hb j=> ?_⟩
  ·subst j;exact p a ((f2 a).2 g) ((f3 a).2 hb)
  ·subst j;rcases List.mem_append.1 hb with hb | hb
   ·exact d a ((f1 a).2 g) ((i a).2 (.inl ((f2 a).2 hb)))
   ·exact d a ((f1 a).2 g) ((i a).2 (.inr ((f3 a).2 hb)))
 ·rw [e b,i b,f1 b,f2 b,f3 b,List.mem_append,List.mem_append]
end
def lL :dt:=⟨0,[],0,0,[],[]⟩
def og :ak:=⟨0,0,[],0,0,false,0,[]⟩
def bp (t:fA):MS:=⟨t.tick,λi=>t.parts.getD i lL,λp=>t.procs.getD p og⟩
theorem JF {l:List Int} (h:∀z∈l,l.countP (λy=>decide (y=z))<=1):l.Nodup:=by
 induction l with
 | nil=>simp
 | cons a l d=>
  rw [List.nodup_cons];refine ⟨λb=> ?_,d λz e=> ?_⟩
  ·have c:=h a (List.mem_cons_self ..);rw [List.countP_cons] at c;have:0<l.countP (λy=>decide (y=a)):=List.countP_pos_iff.2 ⟨a,b,by simp⟩;simp at c;exact absurd b (by
    intro b;have:=c a b;exact this rfl)
  grind
theorem yE {c:Type} {f:c->Nat} {l:List c} {a:c} (h:a∈l):f a<=(l.map f).sum:=by
 induction l with
 | nil=>cases h
 | cons b l d=>grind
theorem zg {b:Type} {f:b->Nat} {l:List b} (h:(l.map f).sum≠0):∃a∈l,f a≠0:=by refine Classical.byContradiction λc=>h ?_;rw [List.sum_eq_zero_iff_forall_eq_nat];grind
section
variable {c:aW} {fl:Nat->Nat->Bool} {t:fA}
theorem wB (hp:t.parts.length=nP c) (d:t.procs.length=nQ c):(bp t).list c=t:=by
 have a:(List.range (nP c)).map (bp t).part=t.parts:=by
  refine List.ext_getElem? λj=> ?_;rw [List.getElem?_map];by_cases h:j<nP c
  ·rw [List.getElem?_range h,List.getElem?_eq_getElem (by omega)];simp [bp,List.getD,List.getElem?_eq_getElem (show j<t.parts.length by omega)]
  grind
 have b:(List.range (nQ c)).map (bp t).proc=t.procs:=by
  refine List.ext_getElem? λj=> ?_;rw [List.getElem?_map];by_cases h:j<nQ c
  ·rw [List.getElem?_range h,List.getElem?_eq_getElem (by omega)];simp [bp,List.getD,List.getElem?_eq_getElem (show j<t.procs.length by omega)]
  grind
 unfold MS.list;rw [a,b];rfl
theorem KI (m:cH c) {i:Nat} {st:fA}:∀ {l:List qI} {last:Int},xo c st i last l->l.Pairwise (λa b=>a.tick<=b.tick)/\∀e∈l,last<=e.tick/\e.tick<st.tick/\0<=e.proc/\e.proc.toNat<nQ c/\aB c e.proc.toNat=i
 | [],_,_=>⟨List.Pairwise.nil,λe h=>by cases h⟩
 | e::r,last,h=>by
  obtain ⟨f,g,j,k⟩:=h;obtain ⟨a,b⟩:=KI m k;refine ⟨List.pairwise_cons.2 ⟨λd he'=>(b d he').1,a⟩,λd he'=> ?_⟩;rcases List.mem_cons.1 he' with rfl | he'
  ·exact ⟨f,g,(uY m).1 j⟩
  grind
theorem L3 (m:cH c) (h:u7 c t λi y=>fl i y.toNat=true) (hr:∀x∈t.procs,x.bJ.length=8):Good c fl (bp t) No No t.tick:=by
 obtain ⟨⟨hT,hp,hq⟩,hP,hQ,b6,b7,b5⟩:=h;have d2:=wB (c:=c) (t:=t) hp hq;have I:∀ {i},i<nP c->t.parts[i]? =some ((bp t).part i):=λ{i} d=>by have:=I8 (c:=c) (s:=bp t) d;grind
 have g:∀ {i},i<nQ c->t.procs[i]? =some ((bp t).proc i):=λ{i} d=>by have:=yK (c:=c) (s:=bp t) d;grind
 have c6:∀ {p:Int} {q:ak->Prop},O9 t p q->p.toNat<nQ c->q ((bp t).proc p.toNat):=λ{p q} h hp=>by obtain ⟨x,B,H⟩:=h;grind
 have b0:∀ {p:Int} {q:ak->eT->Prop},NA c t p q->p.toNat<nQ c->∃n,eA c p.toNat ((bp t).proc p.toNat)=some n/\q ((bp t).proc p.toNat) n:=λ{p q} h hp=>by obtain ⟨x,y,n,B,H,S,e4⟩:=h;rw [g hp] at B;cases B;obtain ⟨y',f1,f2,f3⟩:=uW m hp;rw [H] at f1;cases f1;exact ⟨n,by rw [<-wX f3];exact S,e4⟩
 have c8:∀p,p<nQ c->∀j,j<nQ c->∀(i:Nat) l,((bp t).proc j).ag[i]? =some l->∀w∈l.waiters,w.proc=(p:Int)->((bp t).proc p).state=2:=λp hp j u i l L w G e=>by obtain ⟨y,f1,f2,f3⟩:=uW m u;have O:=(b7 j _ y (g u) f1 i l L w G).2.2.2.2;obtain ⟨n,_,E,_⟩:=b0 O (by omega);rw [e,Int.toNat_natCast] at E;exact E
 have c7:∀p,p<nQ c->∀j,j<nP c->∀q∈((bp t).part j).au,(p:Int)∈q->((bp t).proc p).state=3:=λp hp j u q X M=>by
  obtain ⟨k,hk,K⟩:=List.getElem_of_mem X;have W:((bp t).part j).au[k]? =some q:=by grind
  obtain ⟨n,_,E,_⟩:=b0 (b6 j _ (I u) k q W _ M).2.1 (by omega);rw [Int.toNat_natCast] at E;exact E
 refine ⟨hT.1,λi d=> ?_,λp F=> ?_,λi d k o ho=> ?_,λi d k q c5=> ?_,λr b8 i l L=> ?_,λp F _ N=> ?_,λp F _ h2=> ?_⟩
 ·obtain ⟨⟨a1,a2,a3⟩,a4,a5,a6,a7,Y,a9,_⟩:=hP i _ (I d);obtain ⟨Q,R⟩:=KI m a4;exact ⟨⟨a1,by rw [LX m] at a2;exact a2⟩,a3,⟨Q,R⟩,a5,a6,a7,Y,a9⟩
 ·obtain ⟨y,f1,f2,f3⟩:=uW m F;obtain ⟨a1,a2,a3,a4,a5,a6,a7,Y,a9,Q,R,b3,b4⟩:=hQ p _ y (g F) f1;rw [wX f3] at Q R b3 b4;rw [f3] at a2;refine ⟨a1,a2,a3,a4,a5,a6,.inr a7,λh=>⟨.inr (Y h).1,(Y h).2⟩,λi l L=> ?_,Q,R,b3,b4,hr _ (List.mem_of_getElem? (g F))⟩;obtain ⟨C,b,D,c4⟩:=a9 i l L;refine ⟨C,b,D,λhu d=> ?_⟩;have:=c4 hu d;rw [f2] at this;have this:fl i ((aB c p:Nat):Int).toNat=true:=this
  rwa [Int.toNat_natCast] at this
 ·by_cases e:o= -1
  ·exact .inl e
  ·obtain ⟨Q,R⟩:=(hP i _ (I d)).2.2.2.2.2.2.2 o (List.mem_of_getElem? ho) e;obtain ⟨C,b,D⟩:=(uY m).1 Q;exact .inr ⟨C,b,D,.inl (dD.2 (c6 R b))⟩
 ·have J:=b6 i _ (I d) k q c5;refine ⟨JF λz U=> ?_,λz U=> ?_,λd0=> ?_⟩
  ·obtain ⟨C,b,D⟩:=(uY m).1 (J z U).1;have N:=b5 z.toNat _ (g b);rw [show ((z.toNat:Nat):Int)=z by omega] at N;have T:q.countP (λy=>decide (y=z))<=nn z ((bp t).part i):=yE (f:=λq:List Int=>q.countP (λy=>decide (y=z))) (List.mem_of_getElem? c5);have O:nn z ((bp t).part i)<=(t.parts.map (nn z)).sum:=yE (List.mem_of_getElem? (I d));split at N<;>omega
  ·obtain ⟨C,b,D⟩:=(uY m).1 (J z U).1;obtain ⟨n,B,H,S⟩:=b0 (J z U).2.1 b;obtain ⟨y,f1,f2,f3⟩:=uW m b;have O:=(hQ z.toNat _ y (g b) f1).2.2.2.2.2.2.2.2.2.2.2.1 H;obtain ⟨n',Z,g2⟩:=O;rw [wX f3,B] at Z;cases Z;exact ⟨C,b,D,λh=>h,.inr ⟨H,n,B,g2,S⟩⟩
  ·cases q with
   | nil=>grind
   | cons a r=>obtain ⟨o,B,H,S⟩:=(J a (List.mem_cons_self ..)).2.2;refine ⟨o,B,by omega,λM=> ?_⟩;grind
 ·obtain ⟨y,f1,f2,f3⟩:=uW m b8;have J:=b7 r _ y (g b8) f1 i l L;refine ⟨JF λz U=> ?_,λd0=> ?_,λw G=> ?_⟩
  ·obtain ⟨w,G,rfl⟩:=List.mem_map.1 U;obtain ⟨C,b,D⟩:=(uY m).1 (J w G).2.1;have N:=b5 w.proc.toNat _ (g b);rw [show ((w.proc.toNat:Nat):Int)=w.proc by omega] at N;have T:vo w.proc l<=nm w.proc ((bp t).proc r):=yE (List.mem_of_getElem? L);have O:nm w.proc ((bp t).proc r)<=(t.procs.map (nm w.proc)).sum:=yE (List.mem_of_getElem? (g b8));rw [wY] at T;split at N<;>omega
  ·cases d3:l.waiters with
   | nil=>grind
   | cons a ws=>obtain ⟨B,_,S,e4,_⟩:=J a (by grind);exact ⟨by omega,.inl (dD.2 S),e4⟩
  ·obtain ⟨B,H,_,_,e5⟩:=J w G;obtain ⟨C,b,D⟩:=(uY m).1 H;obtain ⟨n,Z,g2,g3,g4,g5⟩:=b0 e5 b;exact ⟨C,b,D,λh=>h,.inr ⟨g2,n,Z,g3,by simp [fU,List.getD,g4],by simp [fU,List.getD,g5]⟩⟩
 ·have T:=b5 p _ (g F);rw [if_pos (.inl N)] at T;have O:(t.procs.map (nm (p:Int))).sum=0:=by
   rw [List.sum_eq_zero_iff_forall_eq_nat];intro y hy;obtain ⟨x,P,rfl⟩:=List.mem_map.1 hy;obtain ⟨j,u,K⟩:=List.getElem_of_mem P;have v:j<nQ c:=by have:t.procs.length=nQ c:=hq;omega
   have e:x=(bp t).proc j:=by have A:=g v;rw [List.getElem?_eq_getElem u,K] at A;exact Option.some.inj A
   subst e;refine FG λl L w G ew=> ?_;obtain ⟨i,d,V⟩:=List.getElem_of_mem L;have:=c8 p F j v i l (by rw [List.getElem?_eq_getElem d,V]) w G ew;omega
  have E:(t.parts.map (nn (p:Int))).sum≠0:=by omega
  obtain ⟨x,P,b9⟩:=zg E;obtain ⟨j,u,K⟩:=List.getElem_of_mem P;have v:j<nP c:=by have:t.parts.length=nP c:=hp;omega
  have e:x=(bp t).part j:=by have A:=I v;rw [List.getElem?_eq_getElem u,K] at A;exact Option.some.inj A
  subst e;obtain ⟨q,X,d1⟩:=zg b9;obtain ⟨k,hk,V⟩:=List.getElem_of_mem X;have W:((bp t).part j).au[k]? =some q:=by rw [List.getElem?_eq_getElem hk,V]
  have M:(p:Int)∈q:=Classical.byContradiction λhn=>d1 (Gz hn);have h7:=((uY m).1 (b6 j _ (I v) k q W _ M).1).2.2;rw [Int.toNat_natCast] at h7;grind
 ·have T:=b5 p _ (g F);rw [if_pos (.inr h2)] at T;have O:(t.parts.map (nn (p:Int))).sum=0:=by
   rw [List.sum_eq_zero_iff_forall_eq_nat];intro y hy;obtain ⟨x,P,rfl⟩:=List.mem_map.1 hy;obtain ⟨j,u,K⟩:=List.getElem_of_mem P;have v:j<nP c:=by have:t.parts.length=nP c:=hp;omega
   have e:x=(bp t).part j:=by have A:=I v;rw [List.getElem?_eq_getElem u,K] at A;exact Option.some.inj A
   subst e;refine FF λq X M=> ?_;have:=c7 p F j v q X M;omega
  have E:(t.procs.map (nm (p:Int))).sum≠0:=by omega
  obtain ⟨x,P,b9⟩:=zg E;obtain ⟨j,u,K⟩:=List.getElem_of_mem P;have v:j<nQ c:=by have:t.procs.length=nQ c:=hq;omega
  have e:x=(bp t).proc j:=by have A:=g v;rw [List.getElem?_eq_getElem u,K] at A;exact Option.some.inj A
  subst e;obtain ⟨l,c9,c0⟩:=zg b9;obtain ⟨i,d,V⟩:=List.getElem_of_mem c9;have W:((bp t).proc j).ag[i]? =some l:=by rw [List.getElem?_eq_getElem d,V]
  rw [wY] at c0;have M:(p:Int)∈l.waiters.map (·.proc):=Classical.byContradiction λhn=>c0 (Gz hn);obtain ⟨w,G,e⟩:=List.mem_map.1 M;obtain ⟨y,f1,f2,f3⟩:=uW m v;have h7:=((uY m).1 (b7 j _ y (g v) f1 i l W w G).2.1).2.2;rw [e,Int.toNat_natCast] at h7;grind
end
def rh (a c k:Hp):Hp:=λb=>match a b with | some d=>some d | none=>if c b=none then k b else none
theorem Nr {a d k:Hp} {b:Nat} {c:Obj} (e:a b=some c):rh a d k b=some c:=by unfold rh;rw [e]
theorem EP {a c k:Hp} {b:Nat} (e:a b=none):rh a c k b=if c b=none then k b else none:=by unfold rh;rw [e]
theorem Xx {P:Program} {g:FuncId} {args:List Value} {l K:Value->Hp->Prop} {f k:Hp} {A:eh} (o:Has f A k) (q:th P g args l f) (r:∀v c p,l v c->Has c A p->K v p):th P g args K k:=by
 intro w h;refine (q w (h.mono o.le)).mono ?_;rintro e y ⟨v,c,rfl,t,st⟩;obtain ⟨s,F,a,m⟩:=o;have key:∀b,F b->c b=none/\y.heap[b]? =w.heap[b]?:=λb hb=>by
  cases e:k b with
  | none=>exact absurd e (A.known a b hb)
  | some j=>have:=st.cW b (h.lt e) (m b hb);grind
 refine ⟨v,rh c f k,rfl,r v c _ t ⟨λb j e=>Nr e,F,A.same a λb hb=> ?_,λb hb=>(key b hb).1⟩,?_⟩
 ·rw [EP (key b hb).1,if_pos (m b hb)]
 ·refine ⟨λb j e=> ?_,st.size,λb hb n=> ?_,st.os,st.tape,st.output⟩
  ·cases i:c b with
   | some z=>rw [Nr i] at e;cases e;exact st.sub b _ i
   | none=>
    rw [EP i] at e;by_cases d:f b=none
    ·rw [if_pos d] at e;rw [(st.cW b (h.lt e) d).1];exact h b j e
    grind
  ·have d:f b=none:=tV s n;obtain ⟨u,x⟩:=st.cW b hb d;exact ⟨u,by rw [EP x,if_pos d];exact n⟩
theorem tW {P:Program} {g:FuncId} {args:List Value} {sh:Shape} {K0 K:sh.T->Hp->Prop} {c k:Hp} {A:eh} (o:Has c A k) (d:aa P g args sh K0 c) (f:∀x a b,K0 x a->Has a A b->K x b):aa P g args sh K k:=
 Xx o d λ_ a b ⟨x,e,h⟩ i=>⟨x,e,f x a b h i⟩
theorem Ns {P:Program} {g:FuncId} {args:List Value} {s1 s2 s3:Shape} {K0 K:s1.T->s2.T->s3.T->Hp->Prop} {c k:Hp} {A:eh} (o:Has c A k) (d:mh P g args s1 s2 s3 K0 c) (e:∀x y z a b,K0 x y z a->Has a A b->K x y z b):mh P g args s1 s2 s3 K k:=
 tW o d λp a b h f=>e p.1 p.2.1 p.2.2 a b h f
theorem lZ {c:aW} (h:(gN c).1=0):cH c:=by obtain ⟨e,f,g,j,k,l,d,m,n,q,b⟩:=pX.1 h;obtain ⟨p,r,s⟩:=lf.1 e;have:=List.length_pos_iff.2 p;have:=List.length_pos_iff.2 n;refine ⟨⟨by unfold nP;omega,by unfold nP;omega⟩,⟨f,g,λi o=>by have:=j i o;unfold nP;omega⟩,k,l,d,m,⟨by unfold nQ;omega,by unfold nQ;omega⟩,λy a=>by have:=(b y a).1;unfold nP;omega,λy a=>(W5 d).1 (b y a).2⟩
section
variable {h0 k:Hp}
theorem Has.Ht {a e:Type} {sz:Nat} {enc:a->List Value} {c:e->List Value} {l:Sl} {d:List a} (f:a->e) (t:∀x,enc x=c (f x)) (o:Has h0 (eu sz enc l d) k):Has h0 (eu sz c l (d.map f)) k:=by refine o.map λu F h=> ?_;obtain ⟨s,q,r⟩:=h;refine ⟨by grind,q,r.imp id ?_⟩;rintro ⟨b,off,g,i,j,m,n,p⟩;refine ⟨b,off,g,i,j,m,n,by rw [p,List.flatMap_map];congr 1;grind⟩
theorem RF {h:Hp} {t:Sl} {a:List Int} {n:Int} {Q:Option Addr->Int->Int->Hp->Prop} (r:Is h t a) (F:1<=n) (H:n<=8) (B:a≠ []) (J:a.length<=64) (I:∀x∈a,0<=x/\x<n)
  (D:∀p i s c,h<=c->bG c p [s.v,.int .i64 n]->Is c s a->Q (some p) 0 i c):Mi prog t n Q h:=by
 unfold Mi;have L:=r.1;have M:0<a.length:=List.length_pos_iff.2 B;intro b ty A;have l:=nu (o:=.cells (#[Value.int .i64 n]) ty (0,0)) A;have d:bG (h.set b (.cells (#[Value.int .i64 n]) ty (0,0))) ⟨b,0,none⟩ [.int .i64 n]:=FW (cs:=[Value.int .i64 n]);refine qc (sh:=ab .i64) n d ?_;refine ⟨n,λ_=>d,?_⟩;refine aJ (aJ ?_);rw [if_neg (by simp;omega),if_neg (by simp;omega)];have y:(a.any λx=>decide (x<0) || decide (x>=n))=false:=by grind
 refine ziq (f:=⟨K3, #[], #[.pointer (some ⟨b,0,none⟩)]⟩) (Lg (p:=λx=>decide (x<0) || decide (x>=n)) (Rw.mono l r) (by omega) (λx _ k K m w=> ?_) λi c j z=> ?_)
 ·refine uV (g:=K3) rfl (H2 ?_);unfold zzw;refine ⟨n,λ_=>qk m d,aJ (w k m)⟩
 ·dsimp only;rw [y] at z;rw [if_neg (λe=>by grind)];refine qc (sh:=ab .i64) n (qk j d) ?_;refine Gg ?_;unfold B0;refine rQ (enc:=λx:Int=>bu ((ab .i64).enc x)) (ae.aM 23 pG rfl) (Rw.mono (Hp.le_trans l j) r) (by decide) (λ_=>rfl) (λ_=>rfl) rfl ⟨by omega,by omega⟩ λout G q C=> ?_;refine ⟨⟨qk (Hp.le_trans j q) d,trivial⟩,?_⟩;intro E t2 u;exact D _ _ out _ (Hp.le_trans (Hp.le_trans l j) (Hp.le_trans q (nu u))) (FW (cs:=[out.v,.int .i64 n])) (Rw.mono (nu u) (C.gA λ_=>rfl))
abbrev uj (R F G S T U:eh):eh:=(R.star (F.star G)).star (S.star (T.star U))
variable {R F G S T U:eh}
theorem Has.sR (o:Has h0 (uj R F G S T U) k):∃d,h0<=d/\Has d R k/\∀e f,Has d e f->Has h0 (uj e F G S T U) f:=by obtain ⟨d,a,b,_,c⟩:=o.fst;obtain ⟨i,a2,g,h⟩:=b.f1;exact ⟨i,Hp.le_trans a a2,g,λ_ _ j=>c _ _ (h _ _ j)⟩
theorem Has.sF (o:Has h0 (uj R F G S T U) k):∃d,h0<=d/\Has d F k/\∀e f,Has d e f->Has h0 (uj R e G S T U) f:=by obtain ⟨d,a,b,_,c⟩:=o.fst;obtain ⟨i,a2,g,h⟩:=b.f2;exact ⟨i,Hp.le_trans a a2,g,λ_ _ j=>c _ _ (h _ _ j)⟩
theorem Has.sG (o:Has h0 (uj R F G S T U) k):∃d,h0<=d/\Has d G k/\∀e f,Has d e f->Has h0 (uj R F e S T U) f:=by obtain ⟨d,a,b,_,c⟩:=o.fst;obtain ⟨i,a2,g,h⟩:=b.f3;exact ⟨i,Hp.le_trans a a2,g,λ_ _ j=>c _ _ (h _ _ j)⟩
theorem Has.sS (o:Has h0 (uj R F G S T U) k):∃d,h0<=d/\Has d S k/\∀e f,Has d e f->Has h0 (uj R F G e T U) f:=by obtain ⟨d,a,b,_,c⟩:=o.snd;obtain ⟨i,a2,g,h⟩:=b.f1;exact ⟨i,Hp.le_trans a a2,g,λ_ _ j=>c _ _ (h _ _ j)⟩
theorem Has.sT (o:Has h0 (uj R F G S T U) k):∃d,h0<=d/\Has d T k/\∀e f,Has d e f->Has h0 (uj R F G S e U) f:=by obtain ⟨d,a,b,_,c⟩:=o.snd;obtain ⟨i,a2,g,h⟩:=b.f2;exact ⟨i,Hp.le_trans a a2,g,λ_ _ j=>c _ _ (h _ _ j)⟩
theorem Has.sU (o:Has h0 (uj R F G S T U) k):∃d,h0<=d/\Has d U k/\∀e f,Has d e f->Has h0 (uj R F G S T e) f:=by obtain ⟨d,a,b,_,c⟩:=o.snd;obtain ⟨i,a2,g,h⟩:=b.f3;exact ⟨i,Hp.le_trans a a2,g,λ_ _ j=>c _ _ (h _ _ j)⟩
def kL (q:Addr) (own:Sl) (n:Nat) (y:dt) (b:Nat->Int):eh:=.some_ λx:bC=>.some_ λlp:Addr=>.some_ λa:Addr=>
 ((dR xd q x).star ((eu 3 GX x.log y.log).star ((nk lp y.aC y.au).star (te a b (2*n))))).star (.fact (x.procs=own/\x.af=y.af/\x.lost=y.lost/\x.forbidden=y.forbidden/\x.ai=some lp/\x.eD=some a))
def pT (q:Addr) (p i:Nat) (code:Sl) (room:Int) (y:ak):eh:=.some_ λz:aU=>.some_ λa:Addr=>
 ((dR bE q z).star (eR a room y.ag y.af)).star (.fact (z.dP=(p:Int)/\z.part=(i:Int)/\z.code=code/\z.state=y.state/\gM (eZ z)=y.core/\z.bN=y.bN/\z.post=some a))
theorem Has.CG {q lp a:Addr} {x:bC} {n:Nat} {y:dt} {b:Nat->Int} (o:Has h0 ((((nk lp y.aC y.au).star (eu 3 GX x.log y.log)).star (te a b (2*n))).star (dR xd q x)) k)
  (e:x.af=y.af/\x.lost=y.lost/\x.forbidden=y.forbidden/\x.ai=some lp/\x.eD=some a):Has h0 (kL q x.procs n y b) k:=by
 refine Has.ex.2 ⟨x,Has.ex.2 ⟨lp,Has.ex.2 ⟨a,Has.fV ?_ ⟨rfl,e⟩⟩⟩⟩;refine o.map λc F h=> ?_;exact Cd (λ_ h=>h) (λ_ h=>B9 (Cd (λ_ h=>xj h) (λ_ h=>h) h)) (xj h)
theorem Has.CH {q a:Addr} {z:aU} {room:Int} {p i:Nat} {y:ak} (o:Has h0 ((eR a room y.ag y.af).star (dR bE q z)) k)
  (e:z.dP=(p:Int)/\z.part=(i:Int)/\z.state=y.state/\gM (eZ z)=y.core/\z.bN=y.bN/\z.post=some a):Has h0 (pT q p i z.code room y) k:=
 Has.ex.2 ⟨z,Has.ex.2 ⟨a,Has.fV o.comm ⟨e.1,e.2.1,rfl,e.2.2⟩⟩⟩
theorem I9 {q:Addr} {own:Sl} {n id:Nat} {y:dt} {a:Nat->Int} {v:Int} {g:FuncId} {args:List Value} {K:Hp->Prop} (o:Has h0 (kL q own n y a) k) (B:n<=1000) (hid:id<2*n) (C:a id=0) (hv:0<=v)
  (m:∀ {Q:Int->Hp->Prop},Q (id:Int) k->aa prog g args (ab .i64) Q k) (c:∀b,Has h0 (kL q own n y (cN a id v)) b->K b):
  (if (decide (v>(0:Int)))=true then
 ah none (some q) λf=>
 aQ none aj k (Addr.add f 6) λi=>
 aa prog g args (ab .i64) (λu d=>
 (((bG d (Addr.add f 6) [(.pointer i)])/\(True/\True))/\aa prog xc [(.pointer i),(.int .i64 u),(.int .i64 v)] (ab .i64) (λH l=>
 K l) d)) k
 else
 K k):=by
 by_cases h:v>0
 ·rw [if_pos (decide_eq_true h)];obtain ⟨x,o⟩:=Has.ex.1 o;obtain ⟨lp,o⟩:=Has.ex.1 o;obtain ⟨w,o⟩:=Has.ex.1 o;obtain ⟨o,e⟩:=o.j8;refine aY ((Has.left o).ld (shf:=aj) x.eD rfl ?_);refine m ⟨⟨(Has.left o).fq (off:=6) (n:=1) (vs:=[.pointer x.eD]) rfl,trivial,trivial⟩,?_⟩;obtain ⟨z,D,r,_,put⟩:=o.snd;obtain ⟨A,E,s,t⟩:=r.f3;rw [e.2.2.2.2.2];refine VP (C5 s (by omega) hid h λb p=>c b ?_);exact Has.ex.2 ⟨x,Has.ex.2 ⟨lp,Has.ex.2 ⟨w,(put _ _ (t _ _ p)).fV e⟩⟩⟩
 ·rw [if_neg (by simpa using h)];have:v=0:=by omega
  subst this;rw [show cN a id 0=a from funext λj=>by unfold cN;split<;>simp_all] at c;exact c k o
def zU (c:aW) (i j:Nat):List Nat:=(List.range j).filter λq=>decide (aB c q=i)
theorem KJ {c:aW} {i j:Nat}:zU c i (j+1)=if aB c j=i then zU c i j++ [j] else zU c i j:=by unfold zU;rw [List.range_succ,List.filter_append];grind
end
structure xm (c:aW) (t:fA):Prop where
 parts:t.parts.length=nP c
 procs:t.procs.length=nQ c
 part:∀x∈t.parts,ME x.aC x.au/\x.log.length<=4096
 proc:∀x∈t.procs,x.ag.length=nP c+1/\(0<=x.af/\x.af<x.ag.length)/\(∀l∈x.ag,OJ c.lane l)/\0<=x.timer/\0<=x.cQ
section
variable {h0 h1 k:Hp} {c:aW} {t:fA}
abbrev yF (c:aW) (t:fA) (g:List Addr) (own:Nat->Sl) (m:Nat->Nat->Int) (i:Nat):eh:=eh.first (λi=>kL (g.getD i a0) (own i) (nQ c) (t.parts.getD i lL) (m i)) i
abbrev Fq (c:aW) (t:fA) (u:List Addr) (code:Nat->Sl) (j:Nat):eh:=eh.first (λp=>pT (u.getD p a0) p (aB c p) (code p) c.lane (t.procs.getD p og)) j
abbrev xE (c:aW) (own:Nat->Sl) (j i:Nat):eh:=eh.first (λi=>eu 1 fZ (own i) ((zU c i j).map λ(q:Nat)=>(q:Int))) i
abbrev mi (c:aW) (t:fA) (pm:Addr) (x:bd) (g u:List Addr) (own code:Nat->Sl) (i j:Nat) (m:Nat->Nat->Int):eh:=
 uj (dR Jp pm x) (yF c t g own m i) (Fq c t u code j) (eu 1 eP x.parts g) (eu 1 eP x.procs u) (xE c own j i)
def uQ (x:bd) (l:Sl):bd:={x with parts:=l}
def pM (x:bd) (l:Sl):bd:={x with procs:=l}
variable {pm:Addr} {x:bd} {g u:List Addr} {own code:Nat->Sl} {m:Nat->Nat->Int}
theorem KK {b:Type} {l:List b} {a d:b} {i:Nat} (h:i=l.length):(l++ [a]).getD i d=a:=by grind
theorem Xz {s:aD} {i:Nat} {Q:Hp->Prop} (b:cO h0 s t) (v:xm c t) (mc:cH c) (hi:i<nP c) (hp:g.length=i) (ex:x.procs=⟨none,0,0⟩)
  (o:Has h0 (mi c t pm x g [] (λ_=>⟨none,0,0⟩) code i 0 (λ_ _=>0)) k)
  (X:∀l a K,Has h0 (mi c t pm (uQ x l) (g++ [a]) [] (λ_=>⟨none,0,0⟩) code (i+1) 0 (λ_ _=>0)) K->Q K):
  ((br s.bz.base s.bz.len (i:Int))/\aQ none aP k (sat s.bz.base 6 (i:Int)) λx=>
 bF prog OG [x.dq.v,x.di.v] aj (ab .i64) (λr7 r8 F=>
 ah none (some pm) λd=>
 aQ none an F (Addr.add d 10) λe=>
 aa prog Gd [x.Log.v] an (λr9 G=>
 (((bG G (Addr.add d 10) [e.v])/\(True/\(True/\(True/\True))))/\aa prog D4 [] aj (λb7 C=>
 (((bG C (Addr.add d 10) [e.v])/\(True/\(True/\(True/\True))))/\bP [(.slice none 0 0),(.int .i64 x.Cursor),r9.v,(.int .i64 x.jG),(.int .i64 x.cU),(.pointer r7),(.pointer b7)] (λa1 D=>
 (((bG D (Addr.add d 10) [e.v])/\True)/\bP [(.pointer (some a1))] (λa2 E=>
 (((bG E (Addr.add d 10) [e.v])/\True)/\gF 1 8 [(.pointer none)] e ⟨(some a2),1,1⟩ (λb8 U=>
 ah none (some pm) λp3=>
 da U (Addr.add p3 10) [b8.v] (λV=>
 Q V)) E)) D)) C)) G)) F) k):=by
 obtain ⟨ps,Z,H⟩:=b.parts;have c1:=H.len;have e1:=v.parts;have c0:=mc.parts;refine Rs.get (sh:=aP) (Rw.mono o.le Z) (λ_=>rfl) (by omega) (by omega) (by omega) λ(y:bf) I=> ?_;rw [Int.toNat_natCast] at I;obtain ⟨z,J,f⟩:=H.get I;have b0:=List.mem_of_getElem? J;obtain ⟨lv,h⟩:=v.part z b0;have r:=f.mono o.le;obtain ⟨qs,a9,a8⟩:=r.au;refine ac0 (abX lv r.aC a9 a8 λlp k2 L o2=> ?_);have on:=o.grow L;obtain ⟨g1,m1,p,kf⟩:=on.sR;refine aY (p.ld (shf:=an) x.parts rfl ?_);have R:=r.mono L;obtain ⟨T,W,Y⟩:=R.log;have b9:T.length=z.log.length:=by grind
 refine QL ?_;unfold NM;refine rQ (enc:=λx=>bu (cK.enc x)) (ae.aM 101 rJ rfl) W (by decide) (λ_=>rfl) (λ_=>rfl) rfl ⟨by omega,by omega⟩ λh k3 A B=> ?_;refine ⟨⟨(p.grow A).fq (off:=10) (n:=1) (vs:=[x.parts.v]) rfl,trivial,trivial,trivial,trivial⟩,?_⟩;have B:Has k2 (eu 3 GX h z.log) k3:=by rw [<-Y];exact B.vK.Ht rR λ_=>rfl
 refine ac1 (ab4 (n:=2*nQ c) λP k4 M o4=> ?_);refine ⟨⟨((p.grow A).grow M).fq (off:=10) (n:=1) (vs:=[x.parts.v]) rfl,trivial,trivial,trivial,trivial⟩,?_⟩;refine oY (sh:=xd) (⟨⟨none,0,0⟩,y.Cursor,h,y.jG,y.cU,some lp,some P⟩:bC) rfl λq k5 l5 o5=> ?_;refine ⟨⟨(((p.grow A).grow M).grow l5).fq (off:=10) (n:=1) (vs:=[x.parts.v]) rfl,trivial⟩,?_⟩;have oN:Has k (kL q ⟨none,0,0⟩ (nQ c) z (λ_=>0)) k5:=Has.CG (x:=(⟨⟨none,0,0⟩,y.Cursor,h,y.jG,y.cU,some lp,some P⟩:bC)) (((o2.beside B).beside o4).beside o5) ⟨f.af,f.lost,f.forbidden,rfl,rfl⟩;obtain ⟨g2,m2,oF,b3⟩:=o.sF;have O:=b3 _ _ (oF.beside oN);refine iA (enc:=eP) (xs:=[q]) rfl (λ_=>rfl) λa2 k6 N o6=> ?_;obtain ⟨g3,m3,b1,_⟩:=(O.grow N).sR;refine ⟨⟨b1.fq (off:=10) (n:=1) (vs:=[x.parts.v]) rfl,trivial⟩,?_⟩;obtain ⟨g4,m4,oS,b5⟩:=(O.grow N).sS;refine oS.app (o6.jb λ_=>rfl) (λ_=>rfl) (λ_=>rfl) rfl ⟨by rw [hp,List.length_singleton];omega,by rw [hp,List.length_singleton];omega⟩ λw k7 o7=> ?_;have oB:=b5 _ _ o7;obtain ⟨g5,m5,b2,b4⟩:=oB.sR;refine aY (b2.st (uQ x w) (off:=10) (new:=[w.v]) (by show 10+1<=12;omega) rfl λk8 o8=>X w q k8 ?_);have oC:=b4 _ _ o8;obtain ⟨g6,m6,oU,b6⟩:=oC.sU;have oD:=b6 _ _ (oU.beside (Has.jO (sz:=1) (enc:=fZ) (Hp.le_refl _)));refine cast ?_ oD;congr 1;have S:(yF c t g (λ_=>⟨none,0,0⟩) (λ_ _=>0) i).star (kL q ⟨none,0,0⟩ (nQ c) z λ_=>0)=yF c t (g++ [q]) (λ_=>⟨none,0,0⟩) (λ_ _=>0) (i+1):=by show _=(eh.first (λi=>kL ((g++ [q]).getD i a0) ⟨none,0,0⟩ (nQ c) (t.parts.getD i lL) λ_=>0) i).star (kL ((g++ [q]).getD i a0) ⟨none,0,0⟩ (nQ c) (t.parts.getD i lL) λ_=>0);rw [KK hp.symm,nD J];congr 1;exact tT λj hj=>by grind
 rw [S];rfl
theorem XB {s:aD} {co:az} {j:Nat} {ci:List aS} {Q:Hp->Prop} (b:cO h0 s t) (v:xm c t) (K:cH c) (R:j<nQ c) (hp:u.length=j) (i9:g.length=nP c)
  (c1:co.hZ=c.lane) (c8:Rs h0 bq 2 x.dm ci) (b2:cZ (j3 h0) ci c.procs) (c9:∀(p:Nat) y,ci[p]? =some y->code p=y.Code)
  (S:∀i id,i<nP c->m i id=if id / 2<j then nE c (bp t) i id else 0)
  (o:Has h0 (mi c t pm x g u own code (nP c) j m) k)
  (hk:∀l a e9 b5 k',(∀i id,i<nP c->b5 i id=if id / 2<j+1 then nE c (bp t) i id else 0)->Has h0 (mi c t pm (pM x l) g (u++ [a]) e9 code (nP c) (j+1) b5) k'->Q k'):
  ((br s.aE.base s.aE.len (j:Int))/\aQ none aF k (sat s.aE.base 15 (j:Int)) λx=>
 ah none (some pm) λp2=>
 aQ none an k (Addr.add (Addr.add p2 0) 6) λY=>
 ((br Y.base Y.len (j:Int))/\aQ none bq k (sat Y.base 2 (j:Int)) λM=>
 bF prog ya [(.int .i64 co.hZ),x.eO.v,(.int .i64 x.Cursor)] aj (ab .i64) (λr7 r8 h9=>
 ah none (some pm) λW=>
 aQ none an h9 (Addr.add W 11) λZ=>
 bP [(.int .i64 (j:Int)),(.int .i64 M.Part),M.Code.v,(.int .i64 x.State),(.int .i64 x.PC),(.int .i64 x.bW),(.int .i64 x.bX),(.int .i64 x.bY),(.int .i64 x.bZ),(.int .i64 x.cc),(.int .i64 x.cd),(.int .i64 x.cf),(.int .i64 x.cg),(.bool x.gi),(.pointer r7)] (λa1 a9=>
 (((bG a9 (Addr.add W 11) [Z.v])/\True)/\bP [(.pointer (some a1))] (λa2 b0=>
 (((bG b0 (Addr.add W 11) [Z.v])/\True)/\gF 1 8 [(.pointer none)] Z ⟨(some a2),1,1⟩ (λr9 c4=>
 ah none (some pm) λp4=>
 da c4 (Addr.add p4 11) [r9.v] (λI=>
 ah none (some pm) λp5=>
 aQ none an I (Addr.add p5 10) λx4=>
 ((br x4.base x4.len M.Part)/\aQ none aj I (sat x4.base 1 M.Part) λN=>
 ah none N λp6=>
 aQ none an I (Addr.add p6 0) λx6=>
 bP [(.int .i64 (j:Int))] (λa3 c5=>
 gF 1 8 [(.int .i64 (0:Int))] x6 ⟨(some a3),1,1⟩ (λh2 c6=>
 ah none N λp7=>
 da c6 (Addr.add p7 0) [h2.v] (λO=>
 cC (λk1=>
 (if (decide (x.Timer>(0:Int)))=true then
 ah none N λF=>
 aQ none aj O (Addr.add F 6) λG=>
 aa prog xe [(.int .i64 (j:Int))] (ab .i64) (λX C=>
 (((bG C (Addr.add F 6) [(.pointer G)])/\(True/\True))/\aa prog xc [(.pointer G),(.int .i64 X),(.int .i64 x.Timer)] (ab .i64) (λh3 J=>
 k1 J) C)) O
 else
 k1 O))
 (λC=>
 (if (decide (x.jI>(0:Int)))=true then
 ah none N λF=>
 aQ none aj C (Addr.add F 6) λG=>
 aa prog xR [(.int .i64 (j:Int))] (ab .i64) (λX J=>
 (((bG J (Addr.add F 6) [(.pointer G)])/\(True/\True))/\aa prog xc [(.pointer G),(.int .i64 X),(.int .i64 x.jI)] (ab .i64) (λh3 c7=>
 Q c7) J)) C
 else
 Q C)))) c5) I))) b0)) a9)) h9) k)):=by
 obtain ⟨ps,d4,b1⟩:=b.procs;have i6:=b1.len;have e1:=v.procs;have i5:=K.parts;have i7:=K.procs;refine Rs.get (sh:=aF) (Rw.mono o.le d4) (λ_=>rfl) (by omega) (by omega) (by omega) λ(y:aL) hy=> ?_;rw [Int.toNat_natCast] at hy;obtain ⟨z,T,A⟩:=b1.get hy;have d5:=List.mem_of_getElem? T;obtain ⟨v1,v2,v3,v4,v5⟩:=v.proc z d5;obtain ⟨g1,m1,V,kf⟩:=o.sR;refine aY (V.ld (shf:=an) x.dm (off:=6) rfl ?_);have i1:=b2.len;have i3:nQ c=c.procs.length:=rfl;refine Rs.get (sh:=bq) (Rw.mono o.le c8) (λ_=>rfl) (by omega) (by omega) (by omega) λ(H:aS) P=> ?_;rw [Int.toNat_natCast] at P;obtain ⟨E,b3,b7,_⟩:=b2.get P;have d0:=List.mem_of_getElem? b3;have i4:=K.part E d0;have h5:aB c j=E.part.toNat:=by unfold aB;rw [b3];rfl
 have b9:=c9 j H P;rw [b7];have b6:=A.mono o.le;obtain ⟨ls,d3,d1⟩:=b6.ag;have d2:=K.lane;rw [c1,A.af];refine PJ (adz d2 (by omega) v2 d3 d1 v3 λa k2 l2 o2=> ?_);refine aY ((V.grow l2).ld (shf:=an) x.procs rfl ?_);refine oY (sh:=bE) (⟨(j:Int),E.part,H.Code,y.State,y.PC,y.bW,y.bX,y.bY,y.bZ,y.cc,y.cd,y.cf,y.cg,y.gi,some a⟩:aU) rfl λq k3 l3 o3=> ?_;refine ⟨⟨((V.grow l2).grow l3).fq (off:=11) (n:=1) (vs:=[x.procs.v]) rfl,trivial⟩,?_⟩;have c0:gM (eZ (⟨(j:Int),E.part,H.Code,y.State,y.PC,y.bW,y.bX,y.bY,y.bZ,y.cc,y.cd,y.cf,y.cg,y.gi,some a⟩:aU))=z.core:=by show (⟨y.PC,[y.bW,y.bX,y.bY,y.bZ,y.cc,y.cd,y.cf,y.cg]⟩:Core)=⟨z.pc,z.bJ⟩;rw [A.pc,A.bJ]
 have oN:Has k (pT q j (aB c j) (code j) c.lane z) k3:=by rw [b9];exact Has.CH (z:=(⟨(j:Int),E.part,H.Code,y.State,y.PC,y.bW,y.bX,y.bY,y.bZ,y.cc,y.cd,y.cf,y.cg,y.gi,some a⟩:aU)) (o2.beside o3) ⟨rfl,by grind,A.state,c0,A.bN,rfl⟩
 obtain ⟨g2,m2,oG,f4⟩:=o.sG;have oA:=f4 _ _ (oG.beside oN);refine iA (enc:=eP) (xs:=[q]) rfl (λ_=>rfl) λa2 k4 l4 o4=> ?_;obtain ⟨g3,m3,e6,_⟩:=(oA.grow l4).sR;refine ⟨⟨e6.fq (off:=11) (n:=1) (vs:=[x.procs.v]) rfl,trivial⟩,?_⟩;obtain ⟨g4,m4,oT,f8⟩:=(oA.grow l4).sT;refine oT.app (o4.jb λ_=>rfl) (λ_=>rfl) (λ_=>rfl) rfl ⟨by rw [hp,List.length_singleton];omega,by rw [hp,List.length_singleton];omega⟩ λU k5 o5=> ?_;have oB:=f8 _ _ o5;obtain ⟨g5,m5,e7,f7⟩:=oB.sR;refine aY (e7.st (pM x U) (off:=11) (new:=[U.v]) (by show 11+1<=12;omega) rfl λk6 o6=> ?_);have L:=f7 _ _ o6;obtain ⟨g6,m6,e8,l6⟩:=L.sR;refine aY (e8.ld (shf:=an) x.parts rfl ?_);have D:aB c j<nP c:=by omega
 obtain ⟨g7,m7,oS,_⟩:=L.sS;have rs:Rs k6 aj 1 x.parts (g.map some):=(oS.jb (λ_=>rfl)).map (f:=some) (enc:=λx=>bu (aj.enc x));refine rs.get (λ_=>rfl) (by omega) (by omega) (by grind) λ(w:Option Addr) hw=> ?_;have ew:w=some (g.getD (aB c j) a0):=by grind
 subst ew;obtain ⟨g8,m8,oF,l1⟩:=L.sF;obtain ⟨g9,m9,d,_,l5⟩:=oF.one D;obtain ⟨px,d⟩:=Has.ex.1 d;obtain ⟨lp,d⟩:=Has.ex.1 d;obtain ⟨wp,d⟩:=Has.ex.1 d;obtain ⟨d,eP⟩:=d.j8;refine aY ((Has.left d).ld (shf:=an) (off:=0) px.procs rfl ?_);rw [eP.1];obtain ⟨h6,j0,oU,f9⟩:=L.sU;obtain ⟨h7,j1,oO,_,gC⟩:=oU.one D;have i2:((zU c (aB c j) j).map λ(q:Nat)=>(q:Int)).length<=j:=by rw [List.length_map];exact Nat.le_trans (List.length_filter_le ..) (by simp)
 refine oO.push (e:=(j:Int)) rfl (λ_=>rfl) (λ_=>rfl) rfl ⟨by omega,by omega⟩ λB k7 o7=> ?_;have oD:=f9 _ _ (gC _ _ o7);obtain ⟨h8,j2,d9,f0⟩:=oD.sF;obtain ⟨c3,k0,r,_,f5⟩:=d9.one D;obtain ⟨g0,r⟩:=Has.ex.1 r;obtain ⟨d7,r⟩:=Has.ex.1 r;obtain ⟨h4,r⟩:=Has.ex.1 r;obtain ⟨r,b8⟩:=r.j8;obtain ⟨i0,l0,e0,_,f6⟩:=r.fst;refine aY (e0.st ({g0 with procs:=B}:bC) (off:=0) (new:=[B.v]) (by show 0+1<=7;omega) rfl λk8 o8=> ?_);have oQ:Has c3 (kL (g.getD (aB c j) a0) B (nQ c) (t.parts.getD (aB c j) lL) (m (aB c j))) k8:=Has.ex.2 ⟨_,Has.ex.2 ⟨d7,Has.ex.2 ⟨h4,(f6 _ _ o8).fV ⟨rfl,b8.2⟩⟩⟩⟩;have c2:=S (aB c j);refine cC.direct ?_;rw [A.timer];refine I9 (id:=2*j) oQ (by omega) (by omega) (by grind) v4 (λh=>Jr (by unfold Oh;rw [wrap64 (by omega) (by omega)];grind)) λk9 o9=> ?_;rw [A.cQ];refine I9 (id:=2*j+1) o9 (by omega) (by omega) (by rw [kp (by omega),c2 _ D,if_neg (by omega)]) v5 (λh=>Js (by unfold Oi;rw [show yw (2*(j:Int))=2*(j:Int) from wrap64 (by omega) (by omega),wrap64 (by omega) (by omega)];grind)) λd6 d8=> ?_;have oE:=f0 _ _ (f5 _ _ d8);have a8:(bp t).proc j=z:=nD T;refine hk U q (cN own (aB c j) B) (cN m (aB c j) (cN (cN (m (aB c j)) (2*j) z.timer) (2*j+1) z.cQ)) d6 (λi id b4=> ?_) ?_
 ·by_cases e:i=aB c j
  ·subst e;rw [kg];by_cases e2:id=2*j+1
   ·subst e2;rw [kg,if_pos (by omega)];unfold nE;rw [show (2*j+1) / 2=j by omega,if_pos ⟨R,rfl⟩,if_neg (by omega),a8]
   ·rw [kp e2];by_cases e3:id=2*j
    ·subst e3;rw [kg,if_pos (by omega)];unfold nE;rw [show (2*j) / 2=j by omega,if_pos ⟨R,rfl⟩,if_pos (by omega),a8]
    ·rw [kp e3,S _ _ b4];omega
  ·rw [kp e,S _ _ b4];by_cases e4:id / 2<j
   ·omega
   ·rw [if_neg e4];split
    ·unfold nE;rw [if_neg ?_];rintro ⟨_,e5⟩;exact e (by rw [<-e5];congr 1;omega)
    ·rfl
 ·refine cast ?_ oE;congr 1;have eG:(Fq c t u code j).star (pT q j (aB c j) (code j) c.lane z)=Fq c t (u++ [q]) code (j+1):=by show _=(eh.first (λp=>pT ((u++ [q]).getD p a0) p (aB c p) (code p) c.lane (t.procs.getD p og)) j).star (pT ((u++ [q]).getD j a0) j (aB c j) (code j) c.lane (t.procs.getD j og));rw [KK hp.symm,nD T];congr 1;exact tT λj R=>by grind
  have eU:eh.first (cN (λi=>eu 1 fZ (own i) ((zU c i j).map λ(q:Nat)=>(q:Int))) (aB c j) (eu 1 fZ B ((zU c (aB c j) j).map (λ(q:Nat)=>(q:Int))++ [(j:Int)]))) (nP c)=xE c (cN own (aB c j) B) (j+1) (nP c):=by
   refine tT λi D=> ?_;by_cases e:i=aB c j
   ·subst e;rw [kg,kg,KJ,if_pos rfl,List.map_append];rfl
   ·rw [kp e,kp e,KJ,if_neg (Ne.symm e)]
  have eF:eh.first (cN (λi=>kL (g.getD i a0) (own i) (nQ c) (t.parts.getD i lL) (m i)) (aB c j) (kL (g.getD (aB c j) a0) B (nQ c) (t.parts.getD (aB c j) lL) (cN (cN (m (aB c j)) (2*j) z.timer) (2*j+1) z.cQ))) (nP c)=yF c t g (cN own (aB c j) B) (cN m (aB c j) (cN (cN (m (aB c j)) (2*j) z.timer) (2*j+1) z.cQ)) (nP c):=by
   refine tT λi D=> ?_;by_cases e:i=aB c j
   ·subst e;rw [kg,kg,kg]
   ·rw [kp e,kp e,kp e]
  rw [eG,eU,eF];rfl
theorem adZ {x:az} {s:aD} {Q:Option Addr->Hp->Prop} (a:dQ k x c) (b:cO k s t) (hu:∀l∈c.labels,jq l) (I:(gN c).1=0) (v:xm c t)
  (hq:∀K pm m h1 d,K.c=c->dC h1 K->k<=h1->Has h1 (aK K pm (bp t) m) d->dG c m (bp t)->Q (some pm) d):zwi prog x s Q k:=by
 have G:=lZ I;have hm:(jM c.labels).1=0:=by unfold gN at I;exact (pX.1 I).1
 unfold zwi;have d0:=G.parts;have d2:=G.procs;have b0:=G.table;have c8:nP c=c.labels.length:=rfl;have d1:nQ c=c.procs.length:=rfl;refine U5 (Z2 a (by omega) (by omega) (by omega) (λy L=>by have:=(G.code y L).1;omega) λr T o1 e1 e2 e3 e4=> ?_);refine ⟨⟨trivial,trivial⟩,?_⟩;obtain ⟨B,hB,_⟩:=(GU o1 e1 e2 e3 e4).as_;have U:=o1.le;have ar:dQ T r c:=hB.rd;have a1:=a.mono U;have c9:x.be.len=c.labels.length:=a.labels.1;refine oY (sh:=Jp) (⟨r.be,r.Table,r.Fuel,r.hZ,r.cv,r.Log,r.aE,none,none,s.ee,⟨none,0,0⟩,⟨none,0,0⟩⟩:bd) rfl λpm k2 q o2=> ?_;refine Ns (s1:=aj) (s2:=ab .i64) (s3:=ab .i64) (K0:=λp _ _ z=>T<=z/\∃w,p=some w/\sx z w c.labels) o2 (acZ (adt a1.labels (λe=>absurd hm e) λ_ w z E ht=>⟨E,w,rfl,ht⟩)) ?_;rintro r1 r2 r3 h3 k3 ⟨l3,w,rfl,hT⟩ o3;refine aY (o3.st (⟨r.be,r.Table,r.Fuel,r.hZ,r.cv,r.Log,r.aE,some w,none,s.ee,⟨none,0,0⟩,⟨none,0,0⟩⟩:bd) (off:=7) (new:=[.pointer (some w)]) (by show 7+1<=12;omega) rfl λk4 o4=> ?_);have a3:=a1.mono l3;refine Ns (s1:=aj) (s2:=ab .i64) (s3:=ab .i64) (K0:=λp _ _ z=>h3<=z/\∃sp,p=some sp/\∃(sl:Sl) (n:Int),bG z sp [sl.v,.int .i64 n]/\Is z sl c.table) o4 (JC (RF a3.table (n:=(x.be.len:Int)) (by omega) (by omega) b0.1 b0.2.1 (λi J=>by grind) λsp i sl z E hl hs=>⟨E,sp,rfl,sl,_,hl,hs⟩)) ?_;rintro r4 r5 r6 A k5 ⟨l5,sp,rfl,sl,sn,hL,hS⟩ o5;refine aY (o5.st (⟨r.be,r.Table,r.Fuel,r.hZ,r.cv,r.Log,r.aE,some w,some sp,s.ee,⟨none,0,0⟩,⟨none,0,0⟩⟩:bd) (off:=8) (new:=[.pointer (some sp)]) (by show 8+1<=12;omega) rfl λD o6=> ?_);have V:T<=A:=Hp.le_trans l3 l5;have H:cO A s t:=b.mono (Hp.le_trans U V);have Z:=ar.mono V;obtain ⟨ci,b4,P⟩:=Z.procs;obtain ⟨code,b6⟩:∃code:Nat->Sl,∀(p:Nat) y,ci[p]? =some y->code p=y.Code:=⟨λp=>((ci[p]?).map (·.Code)).getD ⟨none,0,0⟩,λp y h=>by grind⟩;obtain ⟨X,C⟩:∃X:bd,X=⟨r.be,r.Table,r.Fuel,r.hZ,r.cv,r.Log,r.aE,some w,some sp,s.ee,⟨none,0,0⟩,⟨none,0,0⟩⟩:=⟨_,rfl⟩;rw [<-C] at o6;have c7:=P.len;have CO:Has A (mi c t pm X [] [] (λ_=>⟨none,0,0⟩) code 0 0 (λ_ _=>0)) D:=by
  have f1:Has D (eh.fact True) D:=Has.fact trivial (Hp.le_refl _);have n1:Has D (eu 1 eP X.parts []) D:=by rw [C];exact Has.jO (Hp.le_refl _)
  have n2:Has D (eu 1 eP X.procs []) D:=by grind
  exact (o6.beside (f1.beside f1)).beside (n1.beside (n2.beside f1))
 obtain ⟨ps,c0,b3⟩:=H.parts;obtain ⟨qs,c2,c1⟩:=H.procs;have e5:=b3.len;have e6:=c1.len;have e7:=v.parts;have e8:=v.procs;have e9:s.bz.len=ps.length:=c0.1;have c6:s.aE.len=qs.length:=c2.1;refine aA.intro (λ(i:Int) d=>0<=i/\i<=(nP c:Int)/\∃(l:Sl) (g:List Addr),g.length=i.toNat/\Has A (mi c t pm (uQ X l) g [] (λ_=>⟨none,0,0⟩) code i.toNat 0 (λ_ _=>0)) d) (λi _=>(nP c-i).toNat) ⟨by omega,by omega,X.parts,[],rfl,CO⟩ ?_;rintro i k7 ⟨i0,i1,l,g,hp,o⟩;by_cases h:i<(nP c:Int)
 ·rw [if_pos (decide_eq_true (by omega))];have a8:((i.toNat:Nat):Int)=i:=by omega
  have key:=Xz (x:=uQ X l) (i:=i.toNat) (Q:=λd=>(0<=yw (i+1)/\yw (i+1)<=(nP c:Int)/\∃(l:Sl) (g:List Addr),g.length=(yw (i+1)).toNat/\Has A (mi c t pm (uQ X l) g [] (λ_=>⟨none,0,0⟩) code (yw (i+1)).toNat 0 (λ_ _=>0)) d)/\(nP c-yw (i+1)).toNat<(nP c-i).toNat) H v G (by omega) hp (by rw [C];rfl) o λE N d W=>by rw [wrap64 (by omega) (by omega)];refine ⟨⟨by omega,by omega,E,g++ [N],by rw [List.length_append,List.length_singleton];omega,?_⟩,by omega⟩;rw [show (i+1).toNat=i.toNat+1 by omega];exact W
  grind
 ·rw [if_neg (λe=>h (by grind))];have ei:i.toNat=nP c:=by omega
  rw [ei] at o hp;refine aA.intro (λ(j:Int) d=>0<=j/\j<=(nQ c:Int)/\∃(q:Sl) (u:List Addr) (own:Nat->Sl) (m:Nat->Nat->Int),u.length=j.toNat/\(∀i id,i<nP c->m i id=if id / 2<j.toNat then nE c (bp t) i id else 0)/\Has A (mi c t pm (pM (uQ X l) q) g u own code (nP c) j.toNat m) d) (λj _=>(nQ c-j).toNat) ⟨by omega,by omega,X.procs,[],λ_=>⟨none,0,0⟩,λ_ _=>0,rfl,λ_ _ _=>(by simp),o⟩ ?_;rintro j k8 ⟨j0,j1,q,u,own,m,R,S,o⟩;by_cases hj:j<(nQ c:Int)
  ·rw [if_pos (decide_eq_true (by omega))];have a8:((j.toNat:Nat):Int)=j:=by omega
   refine cC.direct ?_;have key:=XB (x:=pM (uQ X l) q) (j:=j.toNat) (Q:=λd=>(0<=yw (j+1)/\yw (j+1)<=(nQ c:Int)/\∃(q:Sl) (u:List Addr) (own:Nat->Sl) (m:Nat->Nat->Int),u.length=(yw (j+1)).toNat/\(∀i id,i<nP c->m i id=if id / 2<(yw (j+1)).toNat then nE c (bp t) i id else 0)/\Has A (mi c t pm (pM (uQ X l) q) g u own code (nP c) (yw (j+1)).toNat m) d)/\(nQ c-yw (j+1)).toNat<(nQ c-j).toNat) H v G (by omega) R hp a.lane (by rw [C];exact b4) P b6 S o λE N c4 c5 d c3 W=>by rw [wrap64 (by omega) (by omega),show (j+1).toNat=j.toNat+1 by omega];exact ⟨⟨by omega,by omega,E,u++ [N],c4,c5,by grind,c3,W⟩,by omega⟩
   rw [a8] at key;exact key
  ·rw [if_neg (λe=>hj (by grind))];have ej:j.toNat=nQ c:=by omega
   rw [ej] at o R S;obtain ⟨O,F,o9,⟨F2,b2,b8⟩,_⟩:=o.fst;have Y:Has A ((eu 1 eP (pM (uQ X l) q).parts g).star ((eu 1 eP (pM (uQ X l) q).procs u).star (xE c own (nQ c) (nP c)))) O:=⟨F,F2,b2,b8⟩;have b1:=Z.mono F;have a9:∀p:Nat,∃M:List bc,∀y,ci[p]? =some y->lR O y.Code M/\M.map bD=gG c p:=λp=>by
    cases L:ci[p]? with
    | none=>simp
    | some y=>obtain ⟨cz,b7,_,M,h1,h2⟩:=P.get L;refine ⟨M,λy' e=> ?_⟩;cases e;exact ⟨Rw.mono F h1,by rw [h2];unfold gG;rw [b7];rfl⟩
   obtain ⟨ins,a9⟩:=Classical.axiomOfChoice a9;refine hq ⟨c,pM (uQ X l) q,w,sp,g,u,own,code,ins⟩ pm m O k8 rfl ?_ (Hp.le_trans (Hp.le_trans U V) F) ?_ (λi id J=> ?_)
   ·refine ⟨I,hu,?_,by rw [C];rfl,hT.mono (Hp.le_trans l5 F),by rw [C];rfl,⟨sl,sn,qk F hL,Rw.mono F hS⟩,hp,(Y.left.jb λ_=>rfl).map (f:=some) (enc:=λx=>bu (aj.enc x)),R,(Y.right.left.jb λ_=>rfl).map (f:=some) (enc:=λx=>bu (aj.enc x)),λi J=> ?_,λp hp=> ?_,λp hp=>G.fD⟩
    ·rw [C];exact b1
    ·exact ((Y.right.right.at_ J).jb λ_=>rfl)
    ·have b9:p<ci.length:=by have:p<nQ c:=hp;omega
     have L:=List.getElem?_eq_getElem b9;grind
   ·have et:rH (pM (uQ X l) q) (bp t).tick=pM (uQ X l) q:=by
     have e:X.tick=(bp t).tick:=by rw [C];exact b.tick
     rw [<-e];rfl
    unfold aK;dsimp only;rw [et];exact o9
   ·rw [S i id J];split
    ·rfl
    ·unfold nE;omega
end
section
variable {c:aW} {fl:Nat->Nat->Bool} {t:fA} {T:Int}
theorem ad0 (m:cH c) (g:Good c fl (bp t) No No T) (hp:t.parts.length=nP c) (H:t.procs.length=nQ c):xm c t:=by
 have v:=g.om m;have B:∀i x,t.parts[i]? =some x->i<nP c/\(bp t).part i=x:=λi x h=>⟨by grind,nD h⟩;have C:∀i x,t.procs[i]? =some x->i<nQ c/\(bp t).proc i=x:=λi x h=>⟨by grind,nD h⟩;have R:=m.ai;refine ⟨hp,H,λx j=> ?_,λx j=> ?_⟩
 ·obtain ⟨i,b⟩:=List.mem_iff_getElem?.1 j;obtain ⟨a,rfl⟩:=B i x b;have sp:=v.part i a;have pm:=g.part i a;refine ⟨⟨⟨sp.ij,by have:=pm.ij;omega⟩,λo s=> ?_,λk o q s u=> ?_,λJ K q L n D S z d I=> ?_⟩,sp.kz⟩
  ·obtain ⟨k,E⟩:=List.mem_iff_getElem?.1 s;rcases g.own i a k o E with h | h<;>omega
  ·obtain ⟨w,y,A⟩:=g.iZ i a k q u;refine ⟨sp.jW.2 q (List.mem_of_getElem? u),λe=> ?_,λz d=>⟨(y z d).1,λe=> ?_⟩,w⟩
   ·grind
   ·obtain ⟨W,n,_,Q⟩:=A (List.ne_nil_of_mem d);grind
  ·have M:=(g.iZ i a J q n).2.1 z I;have N:=(g.iZ i a K L D).2.1 z d;rcases M.2.2.2.2 with h | ⟨_,U,a1,_,a3⟩
   ·exact h
   ·rcases N.2.2.2.2 with h | ⟨_,V,O,_,P⟩
    ·exact h
    grind
 ·obtain ⟨p,G⟩:=List.mem_iff_getElem?.1 j;obtain ⟨f,rfl⟩:=C p x G;have sp:=v.proc p f;have pm:=g.proc p f;refine ⟨sp.len,sp.cur,λl r=> ?_,pm.nz.1,pm.nB.1⟩;obtain ⟨i,b⟩:=List.mem_iff_getElem?.1 r;have sl:=sp.eJ l r;exact ⟨(pm.eJ i l b).1,λF=>((g.eJ p f i l b).2.1 F).2.2,sl.taken,sl.dropped,sl.nd,sl.waiters⟩
end
section
variable {h:Hp}
theorem T6 {P:Program} {n:Int} {Q:Int->Int->Hp->Prop} (b:0<=n/\n<=8) (a:Q 0 n h):Y6 P 1 n Q h:=by
 unfold Y6;have:n=0\/n=1\/n=2\/n=3\/n=4\/n=5\/n=6\/n=7\/n=8:=by omega
 refine ⟨by decide,by decide,by decide,by decide,by decide,?_⟩;rcases this with rfl | rfl | rfl | rfl | rfl | rfl | rfl | rfl | rfl<;>exact a
theorem lX {v:Value}:∀ {n:Nat},fW [v] n=List.replicate n v
 | 0=>rfl
 | n+1=>by unfold fW;simp
theorem El :∀ {n:Nat} {v:Int},jE (List.replicate n (Value.int .i64 v))=true
 | 0,_=>rfl
 | n+1,v=>by rw [List.replicate_succ];show (jE [Value.int .i64 v]&&jE (List.replicate n (Value.int .i64 v)))=true;rw [El];rfl
theorem Z3 {a:Addr} {v n:Int} {Q:Sl->Hp->Prop} (y:bG h a [.int .i64 v]) (w:0<=n/\n<=8) (p:∀l g,h<=g->Is g l (List.replicate n.toNat v)->Q l g):TU prog ⟨some a,1,1⟩ n Q h:=by
 unfold TU;refine cC.direct ?_;rw [if_neg (by simp;omega)];refine VA ?_;unfold I2;refine Tq ?_;rw [show IntKind.wrap .u64 (((⟨some a,1,1⟩:Sl).len:Nat):Int)=1 from rfl,show IntKind.wrap .u64 n=n from v8 ⟨by omega,by omega⟩];refine T6 w (cC.direct ?_);refine aJ ?_;rw [show (decide ((0:Int)>0) || decide (n>9223372036854775807))=false by simp;omega,if_neg (by decide)];obtain ⟨m,rfl⟩:∃m:Nat,n=(m:Int):=⟨n.toNat,by omega⟩;rw [wrap64 (by omega) (by omega)];rw [Int.toNat_natCast] at p;refine ⟨⟨by omega,by omega,by omega,by omega⟩,λb ty hb=> ?_⟩;rw [Int.toNat_natCast,lX];have q:=nu (o:=.cells (List.replicate m (Value.int .i64 0)).toArray ty (0,0)) hb;have B:gE (h.set b (.cells (List.replicate m (Value.int .i64 0)).toArray ty (0,0))) b (List.replicate m (Value.int .i64 0)):=⟨ty,oX⟩;have cW:∀ {k d:Hp},h<=k->Mv [b] k [b] d->h<=d:=λu m c s e=>m.cW c s (u c s e) λG=>by grind
 refine Fz (sz:=1) B (x:=⟨some a,1,1⟩) (n:=min 1 m) (new:=List.replicate (min 1 m) (Value.int .i64 v)) rfl ⟨by simp,?_⟩ El (by simp;omega) λJ E C=> ?_
 ·by_cases e:m=0
  ·omega
  ·refine .inr ⟨a,rfl,?_⟩;rw [show min 1 m=1 by omega];exact qk q y
 ·refine aA.intro (λ(i:Int) d=>∃j:Nat,i=(j:Int)/\j<=m/\(1<=j\/m=0)/\h<=d/\gE d b (List.replicate j (Value.int .i64 v)++List.replicate (m-j) (Value.int .i64 0))) (λi _=>(m-i).toNat) ⟨min 1 m,rfl,by omega,by omega,cW q E,by simpa using C⟩ ?_;rintro i z ⟨j,rfl,H,I,r,f⟩;by_cases t:j<m
  ·rw [if_pos (decide_eq_true (by grind))];refine ⟨⟨by omega,by grind⟩,aJ ⟨⟨by omega,by grind⟩,aJ ?_⟩⟩;rw [Int.toNat_natCast];dsimp only;rw [uG (by omega),Mz,Nat.zero_add,Nat.mul_one];refine Fz (sz:=1) f (n:=min j (m-j)) (new:=List.replicate (min j (m-j)) (Value.int .i64 v)) rfl ?_ El (by simp;omega) λA F D=> ?_
   ·refine f.rd (by simp) ?_;grind
   ·rw [wrap64 (by omega) (by omega)];refine ⟨⟨j+min j (m-j),by omega,by omega,by omega,cW r F,cast (congrArg (gE A b) ?_) D⟩,by omega⟩;rw [List.take_append_of_le_length (by simp),List.take_of_length_le (by simp),List.drop_append,List.drop_eq_nil_of_le (by simp),List.nil_append,List.drop_replicate,List.length_replicate,List.replicate_append_replicate];congr 2;omega
  ·rw [if_neg (λe=>t (by grind))];have:j=m:=by omega
   subst this;refine p _ z r ⟨by simp,by rw [List.flatMap_replicate];show (fW [Value.int .i64 v] j).length=_;rw [lX];simp,?_⟩;by_cases e:j=0
   ·grind
   ·refine .inr ⟨⟨b,0,none⟩,rfl,?_⟩;rw [Nat.sub_self] at f;refine f.nY (off:=0) (n:=j) ?_;rw [List.drop_zero,List.replicate_zero,List.append_nil,List.take_of_length_le (by simp),List.flatMap_replicate];exact lX.symm
end
section
variable {h0 h1 k:Hp} {A:eh}
theorem FH {h:Hp} {b c:Nat} {d:Obj} (a:c≠b):(h.set b d) c=h c:=by simp [Hp.set,a]
theorem FI {cs:List Value} {K:Addr->Hp->Prop} (o:Has h1 A k) (m:∀a f i,h1<=f->bG f a cs->Has f A i->K a i):bP cs K k:=by
 intro b t hb;obtain ⟨h,F,a,l⟩:=o;have j:h1 b=none:=tV h hb;refine m _ (h1.set b (.cells cs.toArray t (0,0))) _ (nu j) FW ⟨λc n e=> ?_,F,A.same a λc d=> ?_,λc d=> ?_⟩
 ·by_cases g:c=b
  ·subst g;rw [oX] at e ⊢;exact e
  ·rw [FH g] at e ⊢;exact h c n e
 ·have:c≠b:=λe=>A.known a c d (by rw [e];exact hb);exact FH this
 ·have:c≠b:=λe=>A.known a c d (by rw [e];exact hb);rw [FH this];exact l c d
theorem Nt {e:Type} {sz bytes:Nat} {enc:e->List Value} {zero:List Value} {z:e} {n:Int} {K:Sl->Hp->Prop} (o:Has h1 A k) (i:zero=enc z) (f:∀x,(enc x).length=sz) (p:0<=n/\n<=1000) (hb:bytes<=1000)
  (g:∀l d c,h1<=d->Rw d sz enc l (List.replicate n.toNat z)->Has d A c->K l c):dL bytes zero n n K k:=by
 have m:n.toNat*bytes<=1000*1000:=Nat.mul_le_mul (by omega) hb;refine ⟨⟨by omega,by omega,by omega,by omega⟩,λb t hb=> ?_⟩;refine FI (cs:=fW zero n.toNat) (K:=λa c=>K ⟨some a,n.toNat,n.toNat⟩ c) o (λa d c l h j=>g _ d c l ⟨by simp,?_,.inr ⟨a,rfl,?_⟩⟩ j) b t hb
 ·rw [List.flatMap_replicate,List.length_flatten,List.map_replicate,f,List.sum_replicate_nat,List.length_replicate]
 ·rw [List.flatMap_replicate,<-i];exact h
theorem rV {d:Type} {sz bytes:Nat} {enc:d->List Value} {zero:List Value} {z:d} {n:Int} {K:Sl->Hp->Prop} (j:zero=enc z) (h:∀x,(enc x).length=sz) (o:0<=n/\n<=1000) (hb:bytes<=1000)
  (i:∀l a,k<=a->Has k (fB sz enc l (List.replicate n.toNat z)) a->K l a):dL bytes zero n n K k:=by
 have m:n.toNat*bytes<=1000*1000:=Nat.mul_le_mul (by omega) hb;refine ⟨⟨by omega,by omega,by omega,by omega⟩,λb t hb=> ?_⟩;have e:(List.replicate n.toNat z).flatMap enc=fW zero n.toNat:=by rw [List.flatMap_replicate,j];rfl
 have f:(fW zero n.toNat).length=n.toNat*sz:=by rw [<-e,List.flatMap_replicate,List.length_flatten,List.map_replicate,h,List.sum_replicate_nat]
 refine i _ _ (nu hb) ⟨nu hb,λc=>c=b,⟨[b],⟨by rw [List.length_replicate],Nat.le_refl _,.inr ⟨b,fW zero n.toNat,rfl,rfl,⟨t,oX⟩,f,?_⟩⟩,λc=>by simp⟩,λc g=>by rw [g];exact hb⟩;grind
end
abbrev eX :bf->List Value:=λx=>bu (aP.enc x)
abbrev eY :aL->List Value:=λx=>bu (aF.enc x)
def zX :bf:=⟨0,⟨none,0,0⟩,0,0,⟨none,0,0⟩,⟨none,0,0⟩⟩
def zY :aL:=⟨0,0,0,0,0,0,0,0,0,0,0,0,false,0,⟨none,0,0⟩⟩
def zL :bA:=⟨⟨none,0,0⟩,⟨none,0,0⟩,0,0⟩
def wv (ai:Int):dt:=⟨0,[],0,0,List.replicate ai.toNat (-1),List.replicate ai.toNat []⟩
def wx (n:Nat):ak:=⟨0,0,List.replicate 8 0,0,0,false,0,List.replicate n ⟨[],[],0,0⟩⟩
theorem Db {c d:Type} {R:c->d->Prop} {a:c} {b:d} (h:R a b):∀ {n:Nat},cZ R (List.replicate n a) (List.replicate n b)
 | 0=>trivial
 | n+1=>⟨h,Db h⟩
theorem wL {c d:Type} {R:c->d->Prop} {a:c} {b:d} (h:R a b):∀ {l:List c} {m:List d},cZ R l m->cZ R (l++ [a]) (m++ [b])
 | [],[],_=>⟨h,trivial⟩
 | _::_,_::_,k=>⟨k.1,wL h k.2⟩
section
variable {h0 hb k:Hp} {r r1:Sl} {i:Nat}
theorem Has.sE {sz:Nat} {sh:Shape} {l:Sl} {b:List sh.T} (o:Has h0 (fB sz (λx=>bu (sh.enc x)) l b) k) (a:∀x,(bu (sh.enc x)).length=sz) (c:0<sz) (d:i<b.length):br l.base l.len (i:Int):=
 (Rs.get (sh:=sh) (K:=λ_=>True) (o.gA a) a c (by omega) (by omega) λ_ _=>trivial).1
theorem RM {rows:List bf} {ai:Int} {K:Hp->Prop} {B:eh} (o:Has hb ((fB 6 eX r rows).star B) k) (hi:rows[i]? =some zX) (S:0<=ai/\ai<=8)
  (hk:∀x c b,hb<=c->eV c x (wv ai)->Has c ((fB 6 eX r (rows.set i x)).star B) b->K b):
  (bP [(.int .i64 (-1:Int))] (λa M=>
 ((True/\(True/\(True/\(True/\True))))/\(aa prog tQ [(.slice (some a) 1 1),(.int .i64 ai)] an (λr2 G=>
 ((True/\(True/\(True/\True)))/\((br r.base r.len (i:Int))/\(dL 24 [(.slice none 0 0)] ai ai (λE w=>
 ((True/\(True/\True))/\da w (Addr.add (sat r.base 6 (i:Int)) 4) [r2.v] (λy=>
 ((True/\True)/\((br r.base r.len (i:Int))/\da y (Addr.add (sat r.base 6 (i:Int)) 5) [E.v] (λA=>
 K A)))))) G/\da G (Addr.add (sat r.base 6 (i:Int)) 4) [r2.v] (λw=>
 ((True/\(True/\True))/\dL 24 [(.slice none 0 0)] ai ai (λE y=>
 ((True/\(True/\True))/\((br r.base r.len (i:Int))/\da y (Addr.add (sat r.base 6 (i:Int)) 5) [E.v] (λA=>
 K A)))) w)))))) M/\dL 24 [(.slice none 0 0)] ai ai (λr2 G=>
 ((True/\(True/\(True/\True)))/\aa prog tQ [(.slice (some a) 1 1),(.int .i64 ai)] an (λE w=>
 ((True/\(True/\(True/\True)))/\((br r.base r.len (i:Int))/\da w (Addr.add (sat r.base 6 (i:Int)) 4) [E.v] (λy=>
 ((True/\(True/\True))/\((br r.base r.len (i:Int))/\da y (Addr.add (sat r.base 6 (i:Int)) 5) [r2.v] (λA=>
 K A))))))) G)) M))) k/\dL 24 [(.slice none 0 0)] ai ai (λr2 M=>
 ((True/\(True/\(True/\True)))/\bP [(.int .i64 (-1:Int))] (λa G=>
 ((True/\(True/\(True/\(True/\True))))/\aa prog tQ [(.slice (some a) 1 1),(.int .i64 ai)] an (λE w=>
 ((True/\(True/\(True/\True)))/\((br r.base r.len (i:Int))/\da w (Addr.add (sat r.base 6 (i:Int)) 4) [E.v] (λy=>
 ((True/\(True/\True))/\((br r.base r.len (i:Int))/\da y (Addr.add (sat r.base 6 (i:Int)) 5) [r2.v] (λA=>
 K A))))))) G)) M)) k):=by
 have R:i<rows.length:=(List.getElem?_eq_some_iff.1 hi).1;have L:∀ {c b:Hp} {d g:Sl},hb<=c->Is c d (List.replicate ai.toNat (-1))->Rw c 1 (λx=>bu (an.enc x)) g (List.replicate ai.toNat (⟨none,0,0⟩:Sl))->Has c ((fB 6 eX r ((rows.set i {zX with dq:=d}).set i {zX with dq:=d,di:=g})).star B) b->K b:=λ{c b d g} S m n h=>by rw [List.set_set] at h;exact hk _ c b S ⟨rfl,⟨[],Rw.nil rfl,rfl⟩,rfl,rfl,m,_,n,Db (Rw.nil rfl)⟩ h
 have O:∀ {c b:Hp} {d:Sl} {f:Hp->Prop},Has c ((fB 6 eX r rows).star B) b->(∀p,Has c ((fB 6 eX r (rows.set i {zX with dq:=d})).star B) p->f p)->da b ((sat r.base 6 (i:Int)).add 4) [d.v] f:=λ{c b d f} h I=>by obtain ⟨m,_,X,_,put⟩:=h.fst;exact X.qB (i:=i) (x':={zX with dq:=d}) (off:=4) (new:=[d.v]) (λ_=>rfl) hi (by simp) rfl λp W=>I p (put _ _ W)
 have P:∀ {c b:Hp} {d g:Sl} {f:Hp->Prop},Has c ((fB 6 eX r (rows.set i {zX with dq:=d})).star B) b->(∀p,Has c ((fB 6 eX r ((rows.set i {zX with dq:=d}).set i {zX with dq:=d,di:=g})).star B) p->f p)->da b ((sat r.base 6 (i:Int)).add 5) [g.v] f:=λ{c b d g f} h I=>by obtain ⟨m,_,X,_,put⟩:=h.fst;exact X.qB (i:=i) (x:={zX with dq:=d}) (x':={zX with dq:=d,di:=g}) (off:=5) (new:=[g.v]) (λ_=>rfl) (List.getElem?_set_self R) (by simp) rfl λp W=>I p (put _ _ W)
 have sE:∀ {c b:Hp} {b0:List bf},b0.length=rows.length->Has c ((fB 6 eX r b0).star B) b->br r.base r.len (i:Int):=λe h=>(Has.left h).sE (sh:=aP) (λ_=>rfl) (by decide) (by omega);have mk:∀ {c b:Hp} {F:eh} {f:Sl->Hp->Prop},Has c F b->(∀l u b,c<=u->Rw u 1 (λx=>bu (an.enc x)) l (List.replicate ai.toNat (⟨none,0,0⟩:Sl))->Has u F b->f l b)->dL 24 [(.slice none 0 0)] ai ai f b:=λh I=>Nt (z:=(⟨none,0,0⟩:Sl)) (enc:=λx=>bu (an.enc x)) h rfl (λ_=>rfl) (by omega) (by omega) I;have Y:∀ {c b:Hp} {F:eh} {a:Addr} {f:Sl->Hp->Prop},Has c F b->bG c a [.int .i64 (-1)]->(∀l u b,c<=u->Is u l (List.replicate ai.toNat (-1))->Has u F b->f l b)->aa prog tQ [(.slice (some a) 1 1),(.int .i64 ai)] an f b:=λ{c b F a f} h H I=>by refine tW (sh:=an) (K0:=λl Q=>c<=Q/\Is Q l (List.replicate ai.toNat (-1))) h (zvl (x:=⟨some a,1,1⟩) (Z3 H S λl Q b2 R=>⟨b2,R⟩)) ?_;grind
 refine ⟨?_,?_⟩
 ·refine FI o λa b1 k1 J H N=> ?_;refine ⟨⟨trivial,trivial,trivial,trivial,trivial⟩,?_,?_⟩
  ·refine Y N H λd Z k2 s m C=> ?_;refine ⟨⟨trivial,trivial,trivial,trivial⟩,sE rfl C,?_,?_⟩
   ·refine mk C λg a8 T t n q=> ?_;refine ⟨⟨trivial,trivial,trivial⟩,O q λU j=>⟨⟨trivial,trivial⟩,sE (by simp) j,P j λV D=>L (Hp.le_trans J (Hp.le_trans s t)) (Rw.mono t m) n D⟩⟩
   ·refine O C λT q=>⟨⟨trivial,trivial,trivial⟩,?_⟩;refine mk q λg b3 U a9 n j=> ?_;exact ⟨⟨trivial,trivial,trivial⟩,sE (by simp) j,P j λV D=>L (Hp.le_trans J (Hp.le_trans s a9)) (Rw.mono a9 m) n D⟩
  ·refine mk N λg Z k2 s n C=> ?_;refine ⟨⟨trivial,trivial,trivial,trivial⟩,?_⟩;refine Y C (qk s H) λd a8 T t m q=> ?_;exact ⟨⟨trivial,trivial,trivial,trivial⟩,sE rfl q,O q λU j=>⟨⟨trivial,trivial,trivial⟩,sE (by simp) j,P j λV D=>L (Hp.le_trans J (Hp.le_trans s t)) m (Rw.mono t n) D⟩⟩
 ·refine mk o λg b1 k1 J n N=> ?_;refine ⟨⟨trivial,trivial,trivial,trivial⟩,?_⟩;refine FI N λa Z k2 s H C=> ?_;refine ⟨⟨trivial,trivial,trivial,trivial,trivial⟩,?_⟩;refine Y C H λd a8 T t m q=> ?_;exact ⟨⟨trivial,trivial,trivial,trivial⟩,sE rfl q,O q λU j=>⟨⟨trivial,trivial,trivial⟩,sE (by simp) j,P j λV D=>L (Hp.le_trans J (Hp.le_trans s t)) m (Rw.mono t (Rw.mono s n)) D⟩⟩
theorem RO {rows:List aL} {n:Int} {K:Hp->Prop} {B:eh} (o:Has hb (B.star (fB 15 eY r1 rows)) k) (b:rows[i]? =some zY) (w:1<=n/\n<=100)
  (m:∀x a c,hb<=a->cF a x (wx n.toNat)->Has a (B.star (fB 15 eY r1 (rows.set i x))) c->K c):
  dL 64 [(.slice none 0 0),(.slice none 0 0),(.int .i64 (0:Int)),(.int .i64 (0:Int))] n n (λr2 f=>
 ((True/\True)/\((br r1.base r1.len (i:Int))/\da f (Addr.add (sat r1.base 15 (i:Int)) 14) [r2.v] (λg=>
 K g)))) k:=by
 have j:i<rows.length:=(List.getElem?_eq_some_iff.1 b).1;refine Nt (sz:=4) (z:=zL) (enc:=λx=>bu (aX.enc x)) o rfl (λ_=>rfl) (by omega) (by omega) λl h y q e d=> ?_;refine ⟨⟨trivial,trivial⟩,(Has.right d).sE (sh:=aF) (λ_=>rfl) (by decide) j,?_⟩;obtain ⟨u,_,t,_,put⟩:=d.snd;refine t.qB (i:=i) (x':={zY with eO:=l}) (off:=14) (new:=[l.v]) (λ_=>rfl) b (by simp) rfl λp s=>m _ h p q ⟨rfl,rfl,rfl,rfl,rfl,rfl,rfl,_,e,Db ⟨Rw.nil rfl,⟨[],Rw.nil rfl,rfl⟩,rfl,rfl⟩⟩ (put _ _ s)
theorem KU {x:az} {c:aW} {Q:aD->Hp->Prop} (a:dQ h0 x c) (N:cH c) (o:Has h0 ((fB 6 eX r (List.replicate (nP c) zX)).star (fB 15 eY r1 (List.replicate (nQ c) zY))) k)
  (U:∀y d,h0<=d->cO d y ((pj c).list c)->Q y d):aA (α1:=Int) (λP b G=>
 (if (decide (b<((r.len:Nat):Int)))=true then
 cC (λk=>
 (bP [(.int .i64 (-1:Int))] (λa g=>
 ((True/\(True/\(True/\(True/\True))))/\(aa prog tQ [(.slice (some a) 1 1),(.int .i64 x.cv)] an (λr2 m=>
 ((True/\(True/\(True/\True)))/\((br r.base r.len b)/\(dL 24 [(.slice none 0 0)] x.cv x.cv (λu l=>
 ((True/\(True/\True))/\da l (Addr.add (sat r.base 6 b) 4) [r2.v] (λq=>
 ((True/\True)/\((br r.base r.len b)/\da q (Addr.add (sat r.base 6 b) 5) [u.v] (λs=>
 k s)))))) m/\da m (Addr.add (sat r.base 6 b) 4) [r2.v] (λl=>
 ((True/\(True/\True))/\dL 24 [(.slice none 0 0)] x.cv x.cv (λu q=>
 ((True/\(True/\True))/\((br r.base r.len b)/\da q (Addr.add (sat r.base 6 b) 5) [u.v] (λs=>
 k s)))) l)))))) g/\dL 24 [(.slice none 0 0)] x.cv x.cv (λr2 m=>
 ((True/\(True/\(True/\True)))/\aa prog tQ [(.slice (some a) 1 1),(.int .i64 x.cv)] an (λu l=>
 ((True/\(True/\(True/\True)))/\((br r.base r.len b)/\da l (Addr.add (sat r.base 6 b) 4) [u.v] (λq=>
 ((True/\(True/\True))/\((br r.base r.len b)/\da q (Addr.add (sat r.base 6 b) 5) [r2.v] (λs=>
 k s))))))) m)) g))) G/\dL 24 [(.slice none 0 0)] x.cv x.cv (λr2 g=>
 ((True/\(True/\(True/\True)))/\bP [(.int .i64 (-1:Int))] (λa m=>
 ((True/\(True/\(True/\(True/\True))))/\aa prog tQ [(.slice (some a) 1 1),(.int .i64 x.cv)] an (λu l=>
 ((True/\(True/\(True/\True)))/\((br r.base r.len b)/\da l (Addr.add (sat r.base 6 b) 4) [u.v] (λq=>
 ((True/\(True/\True))/\((br r.base r.len b)/\da q (Addr.add (sat r.base 6 b) 5) [r2.v] (λs=>
 k s))))))) m)) g)) G))
 (λg=>
 P (yw (b+(1:Int))) g)
 else
 aA (α1:=Int) (λR E g=>
 (if (decide (E<((r1.len:Nat):Int)))=true then
 dL 64 [(.slice none 0 0),(.slice none 0 0),(.int .i64 (0:Int)),(.int .i64 (0:Int))] (yw (((x.be.len:Nat):Int)+(1:Int))) (yw (((x.be.len:Nat):Int)+(1:Int))) (λr2 m=>
 ((True/\True)/\((br r1.base r1.len E)/\da m (Addr.add (sat r1.base 15 E) 14) [r2.v] (λl=>
 R (yw (E+(1:Int))) l)))) g
 else
 Q ⟨(0:Int),r,r1⟩ g)) (0:Int) G)) (0:Int) k:=by
 have a8:=N.parts;have a9:=N.procs;have Y:nP c=c.labels.length:=rfl;have Z:x.be.len=c.labels.length:=a.labels.1;have W:r.len=nP c:=by have:=(Has.left o).vK.iR;grind
 have X:r1.len=nQ c:=by have:=(Has.right o).vK.iR;grind
 refine aA.intro (λ(t:Int) d=>0<=t/\t<=(nP c:Int)/\∃hb done,h0<=hb/\cZ (eV hb) done (List.replicate t.toNat (wv c.ai))/\Has hb ((fB 6 eX r (done++List.replicate (nP c-t.toNat) zX)).star (fB 15 eY r1 (List.replicate (nQ c) zY))) d) (λt _=>(nP c-t).toNat) ⟨by omega,by omega,h0,[],Hp.le_refl _,trivial,by simpa using o⟩ ?_;rintro t k1 ⟨t0,t1,hb,done,lb,hd,o1⟩;have O:=hd.len;rw [List.length_replicate] at O;by_cases h:t<(nP c:Int)
 ·rw [if_pos (decide_eq_true (by omega))];have A:((t.toNat:Nat):Int)=t:=by omega
  refine cC.direct ?_;have J:(done++List.replicate (nP c-t.toNat) zX)[t.toNat]? =some zX:=by grind
  rw [a.ai];have key:=RM (i:=t.toNat) (r:=r) (K:=λd=>(0<=yw (t+1)/\yw (t+1)<=(nP c:Int)/\∃hb done,h0<=hb/\cZ (eV hb) done (List.replicate (yw (t+1)).toNat (wv c.ai))/\Has hb ((fB 6 eX r (done++List.replicate (nP c-(yw (t+1)).toNat) zX)).star (fB 15 eY r1 (List.replicate (nQ c) zY))) d)/\(nP c-yw (t+1)).toNat<(nP c-t).toNat) o1 J N.ai λy H d w C D=>by
   rw [wrap64 (by omega) (by omega),show (t+1).toNat=t.toNat+1 by omega];refine ⟨⟨by omega,by omega,H,done++ [y],Hp.le_trans lb w,?_,?_⟩,by omega⟩
   ·rw [List.replicate_succ'];exact wL C (hd.imp λ_ _ e=>e.mono w)
   ·rw [List.set_append_right _ _ (by omega),O,Nat.sub_self,show nP c-t.toNat=(nP c-(t.toNat+1))+1 by omega,List.replicate_succ,List.set_cons_zero] at D;grind
  rw [A] at key;exact key
 ·rw [if_neg (λe=>h (by grind))];have A:t.toNat=nP c:=by omega
  rw [A,Nat.sub_self,List.replicate_zero,List.append_nil] at o1;rw [A] at hd;refine aA.intro (λ(j:Int) d=>0<=j/\j<=(nQ c:Int)/\∃p f,hb<=p/\cZ (cF p) f (List.replicate j.toNat (wx (nP c+1)))/\Has p ((fB 6 eX r done).star (fB 15 eY r1 (f++List.replicate (nQ c-j.toNat) zY))) d) (λj _=>(nQ c-j).toNat) ⟨by omega,by omega,hb,[],Hp.le_refl _,trivial,by simpa using o1⟩ ?_;rintro j V ⟨j0,j1,p,f,L,B,z⟩;have I:=B.len;rw [List.length_replicate] at I;by_cases T:j<(nQ c:Int)
  ·rw [if_pos (decide_eq_true (by omega))];have F:((j.toNat:Nat):Int)=j:=by omega
   have J:(f++List.replicate (nQ c-j.toNat) zY)[j.toNat]? =some zY:=by rw [List.getElem?_append_right (by omega),I,Nat.sub_self,List.getElem?_replicate,if_pos (by omega)]
   rw [wrap64 (n:=(x.be.len:Int)+1) (by omega) (by omega)];have S:((x.be.len:Int)+1).toNat=nP c+1:=by omega
   have key:=RO (i:=j.toNat) (r1:=r1) (n:=(x.be.len:Int)+1) (K:=λd=>(0<=yw (j+1)/\yw (j+1)<=(nQ c:Int)/\∃p f,hb<=p/\cZ (cF p) f (List.replicate (yw (j+1)).toNat (wx (nP c+1)))/\Has p ((fB 6 eX r done).star (fB 15 eY r1 (f++List.replicate (nQ c-(yw (j+1)).toNat) zY))) d)/\(nQ c-yw (j+1)).toNat<(nQ c-j).toNat) z J (by omega) λy H d w C D=>by
    rw [wrap64 (by omega) (by omega),show (j+1).toNat=j.toNat+1 by omega];refine ⟨⟨by omega,by omega,H,f++ [y],Hp.le_trans L w,?_,?_⟩,by omega⟩
    ·rw [List.replicate_succ'];rw [S] at C;exact wL C (B.imp λ_ _ e=>e.mono w)
    ·rw [List.set_append_right _ _ (by omega),I,Nat.sub_self,show nQ c-j.toNat=(nQ c-(j.toNat+1))+1 by omega,List.replicate_succ,List.set_cons_zero] at D;rw [List.append_assoc];exact D
   grind
  ·rw [if_neg (λe=>T (by grind))];have F:j.toNat=nQ c:=by omega
   rw [F,Nat.sub_self,List.replicate_zero,List.append_nil] at z;rw [F] at B;have M:=z.le;refine U _ V (Hp.le_trans lb (Hp.le_trans L M)) ⟨rfl,⟨done,(Has.left z).gA λ_=>rfl,?_⟩,f,(Has.right z).gA λ_=>rfl,?_⟩
   ·have e:((pj c).list c).parts=List.replicate (nP c) (wv c.ai):=by show (List.range (nP c)).map (λ_=>wv c.ai)=_;rw [List.map_const',List.length_range]
    rw [e];exact hd.imp λ_ _ e=>e.mono (Hp.le_trans L M)
   ·have e:((pj c).list c).procs=List.replicate (nQ c) (wx (nP c+1)):=by show (List.range (nQ c)).map (λ_=>wx (nP c+1))=_;rw [List.map_const',List.length_range]
    rw [e];exact B.imp λ_ _ e=>e.mono M
theorem acB {x:az} {c:aW} {Q:aD->Hp->Prop} (a:dQ k x c) (e:cH c) (g:∀y f,k<=f->cO f y ((pj c).list c)->Q y f):ztx prog x Q k:=by
 unfold ztx;have v:=e.parts;have C:=e.procs;have t:nP c=c.labels.length:=rfl;have B:nQ c=c.procs.length:=rfl;have u:x.be.len=c.labels.length:=a.labels.1;obtain ⟨s,j,h⟩:=a.procs;have w:=h.len;have A:x.aE.len=s.length:=j.1;refine ⟨?_,?_⟩
 ·refine rV (sz:=6) (z:=zX) (enc:=eX) rfl (λ_=>rfl) (by omega) (by omega) λl m o b=>⟨⟨trivial,trivial⟩,?_⟩;refine rV (sz:=15) (z:=zY) (enc:=eY) rfl (λ_=>rfl) (by omega) (by omega) λp n q d=> ?_;rw [show ((x.be.len:Int)).toNat=nP c by omega] at b;rw [show ((x.aE.len:Int)).toNat=nQ c by omega] at d;exact KU a e (b.beside d) g
 ·refine rV (sz:=15) (z:=zY) (enc:=eY) rfl (λ_=>rfl) (by omega) (by omega) λp m o b=>⟨⟨trivial,trivial⟩,?_⟩;refine rV (sz:=6) (z:=zX) (enc:=eX) rfl (λ_=>rfl) (by omega) (by omega) λl n q d=>⟨⟨trivial,trivial⟩,?_⟩;rw [show ((x.be.len:Int)).toNat=nP c by omega] at d;rw [show ((x.aE.len:Int)).toNat=nQ c by omega] at b;exact KU a e (b.beside d).comm g
end
end Lf
namespace Go.Proofs
open Go.RowKit Go.Shelf
attribute [local go_sem] Oper.semAt_some
def vW (cur len:Int) (j:Nat):Int:=(wrap64 (cur+(j:Int))).tmod len
abbrev GR (len:Nat):={x:Int // 0<=x/\x<(len:Int)}
def pd {a:Type} (num:Nat->a) (k:Nat):List a:=(List.range k).map num
theorem kU {a:Type} {num:Nat->a} {k:Nat}:pd num (k+1)=pd num k++ [num k]:=by simp [pd,List.range_succ]
theorem Qe {a:Type} {num:Nat->a} {k:Nat}:(pd num k).length=k:=by simp [pd]
set_option maxHeartbeats 2000000 in
theorem Z5 (n:Nat) (hn:1<=n) (l A A1:Nat) (cur:Int) (len:Nat) (hlen:0<len) (hl2:len<=1000) (num:Nat->GR len) (hnum:∀j,j<len->vW cur len j=(num j).1) (Kp:World->World->Prop) (hkp:∀W W',Kp W W'->W'.cell? ⟨A,0,none⟩=W.cell? ⟨A,0,none⟩/\W'.cell? ⟨A1,0,none⟩=W.cell? ⟨A1,0,none⟩) (J Jx:List (GR len)->World->Prop)
  (hY:∀pre x W,J pre W->pre.length<len->YieldAt Fence.wide (n-1) Tryz.prog l #[.int .i64 x.1] W λe W'=>
   (e=.returned (.bool true)/\J (pre++ [x]) W'/\Kp W W')\/(e=.returned (.bool false)/\Jx (pre++ [x]) W'))
  (W:World) (hA:W.cell? ⟨A,0,none⟩=some (.int .i64 cur)) (hA1:W.cell? ⟨A1,0,none⟩=some (.int .i64 (len:Int))) (h0:J [] W):
  CallsIn Fence.wide n Tryz.prog 312 #[.func (.yield l) #[] #[],.pointer (some ⟨A1,0,none⟩),.pointer (some ⟨A,0,none⟩)] W λe W'=>(∃v,e=.returned v)/\
   ((∃ys,ys=pd num len/\J ys W')\/(∃pre,(∃k,k<=len/\pre=pd num k)/\Jx pre W')):=by
 refine callsIn_of_wp Tryz.func312 rfl trivial ?_ rfl;simp only [Tryz.ntmps312,List.size_toArray,List.length_cons,List.length_nil,Nat.reduceAdd,Nat.reduceSub,Array.replicate_succ,Array.replicate_zero,List.push_toArray,List.append_toArray,List.nil_append,List.cons_append]
 gi_wp2
 gi_loopw [6] (λi wr=>∃k:Nat,k<=len/\i=.int .i64 (k:Int)/\J (pd num k) wr/\wr.cell? ⟨A,0,none⟩=some (.int .i64 cur)/\wr.cell? ⟨A1,0,none⟩=some (.int .i64 (len:Int)))
  (λi _=>len-(intOf i).toNat)
 case atStart=>exact ⟨0,Nat.zero_le _,rfl,h0,hA,hA1⟩
 case round=>
  obtain ⟨k,hk,rfl,hJs,hcA,hcA1⟩:=hrel;by_cases hlt:k<len
  ·obtain ⟨fn,tmps,assign,body,hy,hR⟩:=hY _ (num k) wr hJs (by rw [Qe];exact hlt);rw [<-hnum k hlt] at hy;unfold vW at hy
   gi_wp2
   refine hR.mono ?_;rintro e W3 (⟨rfl,hJ3,hk3⟩ | ⟨rfl,hJx3⟩)
   ·gi_wp2
    go_roundw
    case rel=>exact ⟨k+1,by omega,by simp,by rw [kU];exact hJ3,(hkp _ _ hk3).1.trans hcA,(hkp _ _ hk3).2.trans hcA1⟩
    case measure=>simp [intOf];omega
   ·gi_wp2
    refine bodyPost_ret (results_none rfl _ _ _) rfl ?_;exact ⟨⟨_,rfl⟩,.inr ⟨_,⟨k+1,by omega,kU.symm⟩,hJx3⟩⟩
  ·obtain rfl:k=len:=by omega
   gi_wp2
   go_end0
   exact ⟨⟨_,rfl⟩,.inl ⟨_,rfl,hJs⟩⟩
end Go.Proofs
namespace Lf
open Go Go.Proofs Tryz
noncomputable def mG :Code:=match we f214 with
 | .seq _ (.scope (.seq _ (.seq _ (.seq _ t))))=>t
 | _=>.skip
def tL :List Nat:=[1,3,4]
def Ad :bw:=.sq .tt (.sq (.rg [(0,[]),(1,[]),(2,[]),(3,[]),(4,[]),(5,[]),(6,[]),(7,[]),(8,[]),(9,[]),(10,[]),(11,[])]) (.sq (.rg [(0,[]),(1,[]),(2,[]),(3,[]),(4,[]),(5,[]),(6,[]),(7,[]),(8,[]),(9,[]),(10,[]),(11,[]),(12,[]),(13,[]),(14,[]),(15,[]),(16,[])]) (.sq (.rg [(0,[]),(1,[]),(2,[]),(3,[]),(4,[]),(5,[]),(6,[2]),(7,[]),(8,[]),(9,[])]) .tt)))
noncomputable def vT :Ctx:=⟨prog,tb,tL⟩
def kT (p:Option Addr) (lane:Int):St where
 f:=λt=>match t with
  | 1=>some (.box 1 0,[])
  | 2=>some (.v (.int .i64 0),[])
  | 3=>some (.box 3 0,[])
  | 4=>some (.box 4 0,[])
  | 5=>some (.v (.bool false),[])
  | 6=>some (.v (.int .i64 0),[])
  | _=>none
 m:=λk=>match k with
  | 1=>some [.pointer p]
  | 3=>some [.int .i64 lane]
  | 4=>some [.int .i64 0,.int .i64 0]
  | _=>none
noncomputable def Hu (K:(cl tb f214.resultTypes.toList).T->Hp->Prop):Env:=λe s h=>match e with
 | .gL | .ret=>ux vT s h f214.results.toList f214.resultTypes.toList K
 | _=>False
noncomputable def rG (p:Option Addr) (lane:Int) (K:(cl tb f214.resultTypes.toList).T->Hp->Prop) (h:Hp):Prop:=
 liftM vT mG .full Ad tL (kT p lane) (Hu K) h
end Lf
namespace Go.Proofs
open Go.RowKit Go.Shelf
attribute [local go_sem] Oper.semAt_some
theorem uD {w:World} {o:Obj} {b:Nat}:(w.alloc o).heap[b]? =if b=w.heap.size then some o else w.heap[b]?:=by show (w.heap.push o)[b]? =_;grind
theorem D1 {W:World} {b i:Nat} {a:Array Value} {t:TypeId} (h:W.heap[b]? =some (.cells a t (0,0))):W.cell? ⟨b,i,none⟩=a[i]?:=by simp [World.cell?,h]
theorem yL {W a:World} {b i:Nat} (h:a.heap[b]? =W.heap[b]?):a.cell? ⟨b,i,none⟩=W.cell? ⟨b,i,none⟩:=by simp [World.cell?,h]
structure Cn (B c:Nat) (W2:World) (v:Int) (W:World):Prop where
 same:∀b,b<B->b≠c->W.heap[b]? =W2.heap[b]?
 box:W.heap[c]? =some (.cells #[.int .i64 v] 3)
 size:B<=W.heap.size
 os:W.os=W2.os
 tape:W.tape=W2.tape
 output:W.output=W2.output
theorem Cn.grown {B c:Nat} {f W d:World} {v:Int} {row:Option Nat} (g:Cn B c f v W) (h:c<B) (a:W.grownBy d row) (j:∀r,row=some r->B<=r/\∃o:Obj,W.heap[r]? =some o/\o.isCells=false):Cn B c f v d:=by
 have key:∀b,b<B->d.heap[b]? =W.heap[b]?:=λb hb=>a.block b (Nat.lt_of_lt_of_le hb g.size) λe=>by grind
 exact ⟨λb hb i=>(key b hb).trans (g.same b hb i),(key c h).trans g.box,Nat.le_trans g.size a.size,a.os.trans g.os,a.tape.trans g.tape,a.output.trans g.output⟩
theorem Pp {n:Nat} {d:Nat->Nat} {s:Lf.St} {a:Act} {h:Lf.Hp} {w:World} {D:Nat} (r:Lf.Rel n d s a h w) (q:h D=none) (t:w.heap[D]? =some (.deferred (some []))) (o:Obj):Lf.Rel n d s a h (w.putObj D o) where
 sz:=r.sz
 sub:=λb p e=>by
  have c:b≠D:=λi=>by grind
  rw [World.putObj_heap_other c];exact r.sub b p e
 lt:=r.lt
 chain:=r.chain
 cur:=r.cur
 aM:=r.aM
 box:=λk f e m=>by
  obtain ⟨j,g,l⟩:=r.box k f e m;have c:d k≠D:=λi=>by grind
  exact ⟨j,g,by rw [World.putObj_heap_other c];exact l⟩
 inj:=r.inj
 lK:=r.lK
 kA:=r.kA
abbrev Ft (p:Addr) (w:World) (b c d a:Value):Array Value:= #[Value.pointer (some p),Value.pointer (some {block:=w.heap.size,off:=0}),Value.int IntKind.i64 0,Value.pointer (some {block:=w.heap.size+1,off:=0}),Value.pointer (some {block:=w.heap.size+1+1,off:=0}),Value.bool false,Value.int IntKind.i64 0,b,c,d,a,undef,undef,undef,undef,undef,undef,undef,undef,undef,undef,undef,undef,undef,undef,undef,undef,undef,undef,undef,undef,undef,undef,undef,undef,undef,undef,undef,undef,undef,undef,undef,undef,undef,undef,undef,undef,undef,undef,undef,undef,undef,undef]
theorem ad1 {k:Lf.Hp} {p:Addr} {w W:World} {D:Nat} {v:Int} {R S U Q:Value} {K:(Lf.cl Lf.tb Tryz.f214.resultTypes.toList).T->Lf.Hp->Prop} (E:Lf.Sub k w)
  (s:Below w.heap.size w W) (b0:W.heap[w.heap.size]? =some (.cells #[.pointer (some p)] 126)) (b1:W.heap[w.heap.size+1]? =some (.cells #[.int .i64 v] 3)) (b2:W.heap[w.heap.size+2]? =some (.cells #[.int .i64 0,.int .i64 0] 254))
  (H:w.heap.size+3<=D) (I:W.heap[D]? =some (.deferred (some []))) (ht:Lf.rG (some p) v K k):
  Lf.mG.wp Tryz.prog (Exit.noGoto (bodyPostM Fence.wide 3 Tryz.prog Tryz.f214 λe y=>∃u g,e=.returned u/\(∃x,u=(Lf.cl Lf.tb Tryz.f214.resultTypes.toList).enc x/\K x g)/\Lf.Step k g w y))
   {tmps:=Ft p w R S U Q,defers:=[{target:=.collected D,args:= #[]}]} W:=by
 have b6:Lf.Sub k W:=λb o e=>(s.block b (E.lt e)).trans (E b o e);have b5:∀b,w.heap.size<=b->k b=none:=λb hb=>by
  cases e:k b with
  | none=>rfl
  | some o=>have:=E.lt e;omega
 have a8:Lf.Rel 53 (λk=>if k=1 then w.heap.size else if k=3 then w.heap.size+1 else w.heap.size+2) (Lf.kT (some p) v) {tmps:=Ft p w R S U Q,defers:=[{target:=.collected D,args:= #[]}]} k W:=by
  have P:∀(t:Nat) (l:Lf.LV) (c:Lf.ba),(Lf.kT (some p) v).f t=some (l,c)->c=[]/\(t=1/\l=.box 1 0\/t=2/\l=.v (.int .i64 0)\/t=3/\l=.box 3 0\/t=4/\l=.box 4 0\/t=5/\l=.v (.bool false)\/t=6/\l=.v (.int .i64 0)):=λt l c e=>by unfold Lf.kT at e;dsimp only at e;split at e<;>cases e<;>simp
  have cell:∀(k:Nat) (d:List Value),(Lf.kT (some p) v).m k=some d->k=1/\d=[.pointer (some p)]\/k=3/\d=[.int .i64 v]\/k=4/\d=[.int .i64 0,.int .i64 0]:=λk d e=>by unfold Lf.kT at e;dsimp only at e;split at e<;>cases e<;>simp
  refine ⟨rfl,b6,λt l c e=> ?_,λt l c e q hq=> ?_,λt l c e _ _=> ?_,λt l c e _ J=> ?_,λa d e _=> ?_,λA B V X _ _ z=> ?_,λ_ e=>e.elim,λ_ e=>e.elim⟩
  ·grind
  ·grind
  ·obtain ⟨_,h | h | h | h | h | h⟩:=P t l c e<;>obtain ⟨rfl,rfl⟩:=h<;>exact ⟨rfl,λ_ _ _=>trivial⟩
  ·rw [(P t l c e).1] at J;exact absurd (Lf.bS _) J
  ·grind
  ·have c1:A=1\/A=3\/A=4:=by
    cases e:(Lf.kT (some p) v).m A with
    | none=>exact absurd e V
    | some d=>rcases cell A d e with h | h | h<;>simp [h.1]
   have c2:B=1\/B=3\/B=4:=by
    cases e:(Lf.kT (some p) v).m B with
    | none=>exact absurd e X
    | some d=>rcases cell B d e with h | h | h<;>simp [h.1]
   grind
 have C:∀a∈Lf.tL,∀b,b<w.heap.size\/w.heap.size+3<=b->(if a=1 then w.heap.size else if a=3 then w.heap.size+1 else w.heap.size+2)≠b:=λa _ b hb e=>by grind
 refine Lf.nZ Lf.ae Lf.mG Lf.Ad Lf.tL _ _ k (Lf.pV (n:=53) (by kernel_rfl)) ht _ _ W a8 _ λe s' g b7 F y z Z r=> ?_;have sm:D<W.heap.size:=Lf.hO I;have dn:k D=none:=b5 D (by omega);have O:y.heap[D]? =some (.deferred (some [])):=(r.cW D sm dn λa j _=>C a j D (.inr H)).trans I;have Y:g D=none:=r.xa D sm dn λa j _=>C a j D (.inr H);have G:Lf.ux Lf.vT s' g Tryz.f214.results.toList Tryz.f214.resultTypes.toList K->LeavesInM Fence.wide 3 Tryz.prog Tryz.f214 F.tmps (λe y=>∃u g,e=.returned u/\(∃x,u=(Lf.cl Lf.tb Tryz.f214.resultTypes.toList).enc x/\K x g)/\Lf.Step k g w y) F.defers .returning y:=λa9=>by
  rw [r.defers];refine ⟨by simp,.inl ⟨_,_,rfl,run_takeDeferred O,?_⟩⟩;have N:=Pp Z Y O (.deferred none);obtain ⟨x,vs,j,b3,b4⟩:=Lf.rB Lf.ae N a9;refine ⟨_,Lf.ng b3,_,g,rfl,⟨x,b4,j⟩,N.sub,?_,λb hb M=> ?_,?_,?_,?_⟩
  ·have:=r.size;have:=s.size;simp;omega
  ·have L:b<W.heap.size:=Nat.lt_of_lt_of_le hb s.size;refine ⟨?_,r.xa b L M λa j _=>C a j b (.inl hb)⟩;rw [World.putObj_heap_other (by omega),r.cW b L M λa j _=>C a j b (.inl hb)];exact s.block b hb
  ·exact r.os.trans s.os
  ·exact r.tape.trans s.tape
  ·exact r.output.trans s.output
 cases e with
 | gL=>exact G z
 | ret=>exact G z
 | ext i=>exact z.elim
 | kI i=>exact z.elim
end Go.Proofs
namespace Go.Proofs
open Go.RowKit Go.Shelf
attribute [local go_sem] Oper.semAt_some
theorem ad2 {W:World} {b i:Nat} {a:Array Value} {t:TypeId} (h:W.heap[b]? =some (.cells a t (0,0))):W.frozen? ⟨b,i,none⟩=false:=by simp [World.frozen?,h]
theorem RQ {W:World} {b c i:Nat} {v:Value} (h:b≠c):(W.setCell ⟨c,i,none⟩ v).heap[b]? =W.heap[b]?:=by show (W.heap.modify c _)[b]? =_;grind
theorem T7 {W:World} {c:Nat} {u v:Value} {t:TypeId} (h:W.heap[c]? =some (.cells #[u] t (0,0))):(W.setCell ⟨c,0,none⟩ v).heap[c]? =some (.cells #[v] t (0,0)):=by show (W.heap.modify c _)[c]? =_;grind
set_option maxHeartbeats 4000000 in
theorem ad3 {k:Lf.Hp} {pb:Nat} {af:Int} {len:Nat} {ptr:Nat->Addr} {fh:Nat->Nat} {w:World} {Kq:(Lf.cl Lf.tb Tryz.f214.resultTypes.toList).T->Lf.Hp->Prop} (hs:Lf.Sub k w)
  (hl:0<len/\len<=1000) (num:Nat->GR len) (hnum:∀j,j<len->vW af len j=(num j).1)
  (hround:∀W,Lf.Sub k W->Calls Tryz.prog 274 #[.pointer (some ⟨pb,0,none⟩)] W λe W'=>∃A A1:Nat,e=.returned (.func (.func 312) #[] #[.pointer (some ⟨A1,0,none⟩),.pointer (some ⟨A,0,none⟩)])/\(W.heap.size<=A/\A<W'.heap.size)/\(W.heap.size<=A1/\A1<W'.heap.size)/\
   W'.cell? ⟨A,0,none⟩=some (.int .i64 af)/\W'.cell? ⟨A1,0,none⟩=some (.int .i64 (len:Int))/\Below W.heap.size W W')
  (lb:Nat) (lo lc:Nat) (hlane:∀W,Lf.Sub k W->W.cell? ⟨pb,0,none⟩=some (.slice (some ⟨lb,lo,none⟩) len lc))
  (hptr:∀j,j<len->∀W,Lf.Sub k W->W.cell? ⟨lb,lo+j,none⟩=some (.pointer (some (ptr j))))
  (hlen:∀j,j<len->∀W,Lf.Sub k W->Calls Tryz.prog 275 #[.pointer (some (ptr j))] W λe W'=>e=.returned (.int .i64 (fh j:Int))/\Below W.heap.size W W')
  (hno:(∀j,j<len->fh (num j).1.toNat=0)->Lf.rG (some ⟨pb,0,none⟩) (-1) Kq k)
  (hyes:∀j,j<len->(∀i,i<j->fh (num i).1.toNat=0)->fh (num j).1.toNat≠0->Lf.rG (some ⟨pb,0,none⟩) (num j).1 Kq k):
  Calls Tryz.prog 214 #[.pointer (some ⟨pb,0,none⟩)] w (λe w'=>∃u h',e=.returned u/\(∃x,u=(Lf.cl Lf.tb Tryz.f214.resultTypes.toList).enc x/\Kq x h')/\Lf.Step k h' w w'):=by
 refine callsIn_wide.1 (callsIn_of_wp_marks (n:=3) Tryz.func214 rfl trivial ?_ rfl);simp only [Tryz.ntmps214,List.size_toArray,List.length_cons,List.length_nil,Nat.reduceAdd,Nat.reduceSub,Array.replicate_succ,Array.replicate_zero,List.push_toArray,List.append_toArray,List.nil_append,List.cons_append]
 gi_wp2
 refine (show ∀T,T=Lf.mG->Code.wpIn Fence.wide 3 Tryz.prog (Code.scope (Code.seq _ (Code.seq _ (Code.seq (Code.seq _ (Code.block _ (Code.rangeFunc _ _ _ _))) T)))) _ _ _ from λT hT=> ?_) _ rfl;refine wpIn_wide.2 (wp_scope_straight ((wpIn_wide (n:=3)).1 (wpIn_seq_k λK1 hK1=> ?_)))
 gi_wp2
 rename_i K hK;refine wpIn_wide.2 (wp_label (hK _ _ ?_));clear hK;have hsz:(((w.alloc (Obj.cells #[Value.pointer (some ⟨pb,0,none⟩)] 126)).alloc (Obj.cells #[Value.int IntKind.i64 (-1)] 3)).alloc (Obj.cells #[Value.int IntKind.i64 0,Value.int IntKind.i64 0] 254)).heap.size=w.heap.size+3:=by simp
 obtain ⟨W0,hW0⟩:∃W0,((w.alloc (Obj.cells #[Value.pointer (some ⟨pb,0,none⟩)] 126)).alloc (Obj.cells #[Value.int IntKind.i64 (-1)] 3)).alloc (Obj.cells #[Value.int IntKind.i64 0,Value.int IntKind.i64 0] 254)=W0:=⟨_,rfl⟩;have b0:W0.heap[w.heap.size]? =some (.cells #[Value.pointer (some ⟨pb,0,none⟩)] 126):=by rw [<-hW0,uD,if_neg (by simp;omega),uD,if_neg (by simp),uD,if_pos rfl]
 have b1:W0.heap[w.heap.size+1]? =some (.cells #[Value.int IntKind.i64 (-1)] 3):=by rw [<-hW0,uD,if_neg (by simp),uD,if_pos (by simp)]
 have b2:W0.heap[w.heap.size+2]? =some (.cells #[Value.int IntKind.i64 0,Value.int IntKind.i64 0] 254):=by rw [<-hW0,uD,if_pos (by simp)]
 have bo:Below w.heap.size w W0:=by rw [<-hW0];exact (((Below.refl _ w).alloc (Nat.le_refl _) _).alloc (by simp) _).alloc (by simp;omega) _
 rw [hW0] at hsz ⊢;have c0:W0.cell? ⟨w.heap.size,0,none⟩=some (.pointer (some ⟨pb,0,none⟩)):=D1 b0;have hs0:Lf.Sub k W0:=λb o e=>(bo.block b (hs.lt e)).trans (hs b o e);have hr:=hround W0 hs0;refine wpIn_seq_k λK hK=> ?_
 gi_wp2_with (refine ⟨trivial,?_⟩;gi_at_call 274;refine (callsIn_wide.2 hr).mono ?_;rintro e W2 ⟨A,A1,rfl,hA,hA1,hcA,hcA1,hB⟩)
 clear hr hround;have cB:w.heap.size+1<W2.heap.size:=by omega
 have w0:W2.heap[w.heap.size]? =some (.cells #[Value.pointer (some ⟨pb,0,none⟩)] 126):=(hB.block _ (by omega)).trans b0;have w1:W2.heap[w.heap.size+1]? =some (.cells #[Value.int IntKind.i64 (-1)] 3):=(hB.block _ (by omega)).trans b1;have w2:W2.heap[w.heap.size+2]? =some (.cells #[Value.int IntKind.i64 0,Value.int IntKind.i64 0] 254):=(hB.block _ (by omega)).trans b2;have ww:Below w.heap.size w W2:=bo.trans (hB.mono (by omega));have subG:∀ {v W},Cn W2.heap.size (w.heap.size+1) W2 v W->Lf.Sub k W/\Below w.heap.size w W/\W.heap[w.heap.size]? =some (.cells #[Value.pointer (some ⟨pb,0,none⟩)] 126)/\W.heap[w.heap.size+2]? =some (.cells #[Value.int IntKind.i64 0,Value.int IntKind.i64 0] 254):=λ{v W} g=>by have hb:Below w.heap.size w W:=⟨g.os.trans ww.os,g.tape.trans ww.tape,g.output.trans ww.output,by have:=g.size;omega,λb hb=>(g.same b (by omega) (by omega)).trans (ww.block b hb)⟩;exact ⟨λb o e=>(hb.block b (hs.lt e)).trans (hs b o e),hb,(g.same _ (by omega) (by omega)).trans w0,(g.same _ (by omega) (by omega)).trans w2⟩
 have tail:∀ {v W D} {x7 x8 x9 x10:Value},Cn W2.heap.size (w.heap.size+1) W2 v W->W2.heap.size<=D->W.heap[D]? =some (.deferred (some []))->Lf.rG (some ⟨pb,0,none⟩) v Kq k->
   K {tmps:=Ft ⟨pb,0,none⟩ w x7 x8 x9 x10,defers:=[{target:=.collected D,args:= #[]}]} W:=λ{v W D x7 x8 x9 x10} g hD hK2 ht=>by
  obtain ⟨q1,q2,q3,q4⟩:=subG g;refine hK _ _ (wpIn_wide.2 ?_);rw [hT];exact ad1 hs q2 q3 g.box q4 (by omega) hK2 ht
 refine wpIn_rangeFunc_ownF (α:=GR len) rfl (by decide) (gf:=312) (lb:= #[Value.pointer (some ⟨A1,0,none⟩),Value.pointer (some ⟨A,0,none⟩)]) rfl trivial (enters_of Tryz.func312 (by kernel_rfl) rfl)
  (encs:=λx=> #[.int .i64 x.1]) (Kp:=λW W'=>W'.cell? ⟨A,0,none⟩=W.cell? ⟨A,0,none⟩/\W'.cell? ⟨A1,0,none⟩=W.cell? ⟨A1,0,none⟩)
  (S:=λys=>ys=pd num len) (Sp:=λpre=>∃k,k<=len/\pre=pd num k) (N:=len) (w0:=W2)
  (λl J Jx W hW _ _ hY h0=>Z5 2 (by decide) l A A1 af len hl.1 hl.2 num hnum _ (λ_ _ h=>h) J Jx hY W ((hW.cell (p:=⟨A,0,none⟩) hA.2).trans hcA) ((hW.cell (p:=⟨A1,0,none⟩) hA1.2).trans hcA1) h0)
  (λh1 h2=>⟨h2.1.trans h1.1,h2.2.trans h1.2⟩)
  (λW l o o' hl2 _ _ _=>⟨yL (World.putObj_heap_other (by omega)),yL (World.putObj_heap_other (by omega))⟩)
  (Below.refl _ _) (λ_=>rfl)
  (λpre W=>Cn W2.heap.size (w.heap.size+1) W2 (-1) W/\∀y∈pre,fh y.1.toNat=0)
  (λc pre W=>c=.exit 0/\∃pre' x,pre=pre'++ [x]/\(∀y∈pre',fh y.1.toNat=0)/\fh x.1.toNat≠0/\Cn W2.heap.size (w.heap.size+1) W2 x.1 W)
  (λs A B row hs hg hr=>⟨hs.1.grown cB hg hr,hs.2⟩)
  (λc s A B row hs hg hr=>by
   obtain ⟨e,pre',x,h1,h2,h3,h4⟩:=hs;exact ⟨e,pre',x,h1,h2,h3,h4.grown cB hg hr⟩)
  ⟨⟨λ_ _ _=>rfl,w1,Nat.le_refl _,rfl,rfl,rfl⟩,λy hy=>by cases hy⟩
  (λx=>{tmps:= #[Value.pointer (some ⟨pb,0,none⟩),Value.pointer (some ⟨w.heap.size,0,none⟩),Value.int IntKind.i64 0,Value.pointer (some ⟨w.heap.size+1,0,none⟩),Value.pointer (some ⟨w.heap.size+1+1,0,none⟩),Value.bool false,Value.int IntKind.i64 0,.int .i64 x.1,Value.pointer (some ⟨pb,0,none⟩),Value.func (Fn.func 312) #[] #[Value.pointer (some ⟨A1,0,none⟩),Value.pointer (some ⟨A,0,none⟩)],.int .i64 x.1,undef,undef,undef,undef,undef,undef,undef,undef,undef,undef,undef,undef,undef,undef,undef,undef,undef,undef,undef,undef,undef,undef,undef,undef,undef,undef,undef,undef,undef,undef,undef,undef,undef,undef,undef,undef,undef,undef,undef,undef,undef,undef],defers:=[]})
  ?assign ?body ?done ?stop
 case assign=>
  intro l x W K hK
  gi_wp2
  exact hK
 case body=>
  rintro l pre x W ⟨g,hz⟩ _;obtain ⟨q1,q2,q3,q4⟩:=subG g;have d0:W.cell? ⟨w.heap.size,0,none⟩=some (.pointer (some ⟨pb,0,none⟩)):=D1 q3;have d1:W.cell? ⟨pb,0,none⟩=some (.slice (some ⟨lb,lo,none⟩) len lc):=hlane W q1;have xl:x.1.toNat<len:=by have:=x.2;omega
  have x0:=x.2;have d2:W.cell? ⟨lb,lo+x.1.toNat,none⟩=some (.pointer (some (ptr x.1.toNat))):=hptr _ xl W q1;have hc:=hlen _ xl W q1;by_cases hv:fh x.1.toNat=0
  ·rw [hv] at hc
   gi_wp2_with (refine ⟨trivial,?_⟩;gi_at_call 275;refine (CallsIn.inRound l (callsIn_wide.2 hc)).mono ?_;rintro e W3 ⟨rfl,hB3⟩)
   have hlt:∀b o,W.heap[b]? =some o->W3.heap[b]? =some o:=λb o e=>(hB3.block b (Lf.hO e)).trans e;have gsz:=g.size;refine ⟨⟨hB3.size,λb o e _=>hlt b o e⟩,⟨yL (hB3.block _ (by omega)),yL (hB3.block _ (by omega))⟩,⟨λb hb hne=>(hB3.block b (by omega)).trans (g.same b hb hne),hlt _ _ g.box,Nat.le_trans g.size hB3.size,hB3.os.trans g.os,hB3.tape.trans g.tape,hB3.output.trans g.output⟩,λy hy=> ?_⟩;grind
  ·have hv2:0<fh x.1.toNat:=Nat.pos_of_ne_zero hv
   gi_wp2_with (refine ⟨trivial,?_⟩;gi_at_call 275;refine (CallsIn.inRound l (callsIn_wide.2 hc)).mono ?_;rintro e W3 ⟨rfl,hB3⟩;have hb3:=(hB3.block _ (Lf.hO g.box)).trans g.box;have hcb:W3.cell? ⟨w.heap.size+1,0,none⟩=some (.int .i64 (-1)):=D1 hb3;have hfb:W3.frozen? ⟨w.heap.size+1,0,none⟩=false:=ad2 hb3)
   have gsz:=g.size;refine ⟨⟨Nat.le_trans hB3.size (KeepsOthers.setCell _ _ _).size,λb o e ho=>(KeepsOthers.setCell _ _ _).same b o ((hB3.block b (Lf.hO e)).trans e) ho⟩,rfl,pre,x,rfl,hz,hv,?_⟩;have hset:(W3.setCell ⟨w.heap.size+1,0,none⟩ (.int .i64 x.1))=(W3.setCell ⟨w.heap.size+1,0,none⟩ (.int .i64 x.1)):=rfl;refine ⟨λb hb hne=> ?_,?_,?_,hB3.os.trans g.os,hB3.tape.trans g.tape,hB3.output.trans g.output⟩
   ·rw [RQ hne];exact (hB3.block b (by omega)).trans (g.same b hb hne)
   ·exact T7 hb3
   ·exact Nat.le_trans g.size (Nat.le_trans hB3.size (KeepsOthers.setCell _ _ _).size)
 case done=>
  rintro D ys W hD rfl ⟨g,hz⟩ hK2
  gi_wp2
  refine tail (x7:=undef) (x8:=Value.pointer (some ⟨pb,0,none⟩)) (x9:=Value.func (Fn.func 312) #[] #[Value.pointer (some ⟨A1,0,none⟩),Value.pointer (some ⟨A,0,none⟩)]) (x10:=undef) g hD hK2 (hno λj hj=>hz _ ?_);exact List.mem_map.2 ⟨j,List.mem_range.2 hj,rfl⟩
 case stop=>
  rintro D c pre W hD hSp ⟨rfl,pre',x,h1,h2,h3,g⟩ hK2
  gi_wp2
  obtain ⟨k1,hk1,e1⟩:=hSp;rw [h1] at e1;cases k1 with
  | zero=>simp [pd] at e1
  | succ j=>
   rw [kU] at e1;obtain ⟨e2,e3⟩:=List.append_inj' e1 rfl;have e3:x=num j:=by simpa using e3
   refine tail (x7:=undef) (x8:=Value.pointer (some ⟨pb,0,none⟩)) (x9:=Value.func (Fn.func 312) #[] #[Value.pointer (some ⟨A1,0,none⟩),Value.pointer (some ⟨A,0,none⟩)]) (x10:=undef) g hD hK2 ?_;rw [e3];refine hyes j (by omega) (λi hi=> ?_) (by grind);exact h2 _ (by rw [e2];exact List.mem_map.2 ⟨i,List.mem_range.2 hi,rfl⟩)
end Go.Proofs
namespace Lf
open Go Go.Proofs Go.RowKit
def Fu (P:Program) (p:Option Addr) (lane:Int) (Q:(Int->(Int->(bB->(Bool->(Int->(Hp->Prop))))))) (h:Hp):Prop:=
 (if (decide (lane<(0:Int)))=true then
 Q (0:Int) (0:Int) ⟨(0:Int),(0:Int)⟩ false (21:Int) h
 else
 ah none p λd=>
 aQ none an h (Addr.add d 0) λx=>
 (((x.len:Nat):Int)≠(0:Int)/\ah none p λe=>
 da h (Addr.add e 1) [(.int .i64 (Int.tmod (yw (lane+(1:Int))) ((x.len:Nat):Int)))] (λa=>
 ah none p λf=>
 aQ none an a (Addr.add f 0) λb=>
 ((br b.base b.len lane)/\aQ none aj a (sat b.base 1 lane) λj=>
 pP P ZA [(.pointer j)] (ab .i64) aH aR (ab .i64) (λr g r2 i c=>
 ((True/\True)/\Q r lane g r2 i c)) a))))
theorem L6 (p:Option Addr) (lane:Int) (Q:Int->Int->bB->Bool->Int->Hp->Prop) (h:Hp):rG p lane (λx a=>Q x.1 x.2.1 x.2.2.1 x.2.2.2.1 x.2.2.2.2 a) h=Fu Tryz.prog p lane Q h:=by kernel_rfl
section
variable {h0 k:Hp}
theorem KL {h:Hp} {a:Addr} {b:List Value} {i:Nat} {v:Value} (l:bG h a b) (e:b[i]? =some v):dw h (a.add i)=some v:=l i v e
theorem T8 {P:Program} {g:FuncId} {args:List Value} {sh:Shape} {K:sh.T->Hp->Prop} {w:World} (c:Sub k w) (f:aa P g args sh (λx a=>a=k/\K x a) k):Calls P g args.toArray w λe d=>∃x,e=.returned (sh.enc x)/\K x k/\Below w.heap.size w d:=by
 refine (f w c).mono ?_;rintro e d ⟨v,a,rfl,⟨x,rfl,rfl,h⟩,st⟩;refine ⟨x,rfl,h,st.os,st.tape,st.output,st.size,λb hb=> ?_⟩;cases e:a b with
 | none=>exact (st.cW b hb e).1
 | some o=>rw [st.sub b o e,c b o e]
theorem xO {a:Type} {l:List a} {i:Nat} {d:a} (h:i<l.length):l[i]? =some (l.getD i d):=by grind
theorem Mm {b:Type} {f:b->Value}:∀ {l:List b},l.flatMap (λa=> [f a])=l.map f
 | []=>rfl
 | a::r=>by rw [List.flatMap_cons,Mm,List.map_cons];rfl
theorem Z7 {a:Type} {n:Nat} {f:Nat->a} {q:a->Bool} (h:∀j,j<n->q (f j)=false):((List.range n).map f).find? q=none:=by grind
theorem Z9 {a:Type} {n:Nat} {f:Nat->a} {q:a->Bool} {j:Nat} (c:j<n) (h:∀i,i<j->q (f i)=false) (b:q (f j)=true):((List.range n).map f).find? q=some (f j):=by
 have e:List.range n=List.range j++j::(List.range (n-j-1)).map (λi=>j+1+i):=by rw [show n=j+(1+(n-j-1)) by omega,List.range_add,List.range_add];simp [Nat.add_assoc]
 grind
theorem KM :zd:=by
 intro h0 k p room af f Q o hl d0 c0 c5;obtain ⟨x,s,e1,H,C⟩:=o.oe;obtain ⟨q,rfl,c9,d1⟩:=(Has.left C).qD;have b9:=C.right.left.iR;have c3:Rw k 1 eP x.ag s:=C.right.left.jb λ_=>rfl;have U:0<f.length:=by omega
 obtain ⟨L,M,c8,b8⟩:∃L M,x.ag.base=some ⟨L,M,none⟩/\bG k ⟨L,M,none⟩ (s.flatMap eP):=by
  obtain ⟨_,F,⟨q1,q2,q3⟩,_⟩:=C.right.left;rcases q3 with ⟨h,_⟩ | ⟨b,off,cs,h1,_⟩
  ·omega
  ·rcases c3.2.2 with h | ⟨a,h3,h4⟩
   ·omega
   grind
 have b6:∀j,j<f.length->(s.flatMap eP)[j]? =some (.pointer (some (s.getD j a0))):=λj l=>by rw [show s.flatMap eP=s.map λa=>Value.pointer (some a) from Mm,List.getElem?_map,xO (d:=a0) (by omega)];rfl
 have D:Has h0 (dR Ow ⟨q,0,none⟩ x) k:=Has.left C;have b7:dw k ⟨q,0,none⟩=some x.ag.v:=KL (i:=0) (D.fq (off:=0) (n:=2) (vs:=[x.ag.v,.int .i64 x.af]) rfl) rfl;have c1:Has h0 (eR ⟨q,0,none⟩ room f af) k:=C.kR e1 H;let num:Nat->GR f.length:=λj=>⟨(((af.toNat+j)%f.length:Nat):Int),by omega,by have:=Nat.mod_lt (af.toNat+j) U;omega⟩;let fh:Nat->Nat:=λj=>(f.getD j mC).values.length;have S:∀j,j<f.length->((match f[(af.toNat+j)%f.length]? with | some x=> !x.values.isEmpty | none=>false)=true↔fh (num j).1.toNat≠0):=λj l=>by have I:=Nat.mod_lt (af.toNat+j) U;grind
 have key:th Tryz.prog Zv [.pointer (some ⟨q,0,none⟩)] (λv g=>∃x,v=(cl tb Tryz.f214.resultTypes.toList).enc x/\(λ(x:(yg (ab .i64) (ab .i64) aH aR (ab .i64)).T) g=>Q x.1 x.2.1 x.2.2.1 x.2.2.2.1 x.2.2.2.2 g) x g) k:=by
  intro w hs;refine ad3 (len:=f.length) (af:=af) (ptr:=λj=>s.getD j a0) (fh:=fh) (num:=num) hs ⟨U,by omega⟩ (λj l=> ?_) (λW B=> ?_) L M x.ag.cap (λW B=> ?_) (λj l W B=> ?_) (λj l W B=> ?_) (λV=> ?_) (λj l V hv=> ?_)
  ·show (Go.RowKit.wrap64 (af+(j:Int))).tmod (f.length:Int)=(((af.toNat+j)%f.length:Nat):Int);have:Go.RowKit.wrap64 (af+(j:Int))=((af.toNat+j:Nat):Int):=by unfold Go.RowKit.wrap64;omega
   rw [this];rfl
  ·refine (show aa Tryz.prog zye [aj.enc (some ⟨q,0,none⟩)] fu (λv g=>k<=g/\∃A u:Nat,k A=none/\k u=none/\v=⟨312, #[], #[.pointer (some ⟨u,0,none⟩),.pointer (some ⟨A,0,none⟩)]⟩/\bG g ⟨A,0,none⟩ [.int .i64 af]/\bG g ⟨u,0,none⟩ [.int .i64 (f.length:Int)]) k from ?_) W B |>.mono ?_
   ·refine Tu ?_;unfold zyi;refine aY (D.ld (shf:=ab .i64) x.af (off:=1) rfl ?_);refine aY (D.ld (shf:=an) x.ag (off:=0) rfl ?_);intro b ty hn;have J:=nu (o:=.cells #[Value.int .i64 0] ty (0,0)) hn;have hb:gE (k.set b (.cells #[Value.int .i64 0] ty (0,0))) b [.int .i64 0]:=⟨ty,oX⟩;refine ⟨⟨qk J (D.fq (off:=1) (n:=1) (vs:=[.int .i64 x.af]) rfl),qk J (D.fq (off:=0) (n:=1) (vs:=[x.ag.v]) rfl),trivial⟩,?_⟩;refine rP hb (off:=0) (new:=[.int .i64 x.af]) (by simp) λh2 m b5=> ?_;have X:k<=h2:=λc ob e=>m.cW c ob (J c ob e) λhc=>by grind
    refine ⟨⟨qk X (D.fq (off:=0) (n:=1) (vs:=[x.ag.v]) rfl),trivial⟩,?_⟩;intro Z qF b0;have l3:=nu (o:=.cells #[Value.int .i64 ((x.ag.len:Nat):Int)] qF (0,0)) b0;refine ⟨Hp.le_trans X l3,b,Z,hn,tV X b0,rfl,qk l3 ?_,?_⟩
    ·rw [<-e1];exact b5.nY (off:=0) (n:=1) rfl
    ·have:=FW (h:=h2) (b:=Z) (t:=qF) (cs:=[Value.int .i64 ((x.ag.len:Nat):Int)]);grind
   ·rintro e W' ⟨v,g,rfl,⟨fv,rfl,kl,A,u,nA,c6,rfl,lA,b1⟩,st⟩;have O:∃o,g A=some o:=by
     have:=lA 0 _ rfl;cases e:g A with
     | some o=>simp
     | none=>simp [dw,e,Addr.add] at this
    have P:∃o,g u=some o:=by
     have:=b1 0 _ rfl;cases e:g u with
     | some o=>simp
     | none=>simp [dw,e,Addr.add] at this
    obtain ⟨oA,O⟩:=O;obtain ⟨d2,P⟩:=P;refine ⟨A,u,rfl,⟨Nat.le_of_not_lt λI=> ?_,st.sub.lt O⟩,⟨Nat.le_of_not_lt λI=> ?_,st.sub.lt P⟩,wE st.sub (lA 0 _ rfl),wE st.sub (b1 0 _ rfl),st.os,st.tape,st.output,st.size,λb hb=> ?_⟩
    ·have:=(st.cW A I nA).2;grind
    ·have:=(st.cW u I c6).2;grind
    ·cases e:k b with
     | none=>exact (st.cW b hb e).1
     | some o=>rw [st.sub b o (kl b o e),B b o e]
  ·rw [wE B b7];show some (Value.slice x.ag.base x.ag.len x.ag.cap)=_;grind
  ·have:=KL b8 (b6 j l);rw [kH] at this;exact wE B this
  ·obtain ⟨h1,J,Y,_⟩:=C.nX (xO (d:=mC) l);refine (T8 (sh:=ab .i64) (K:=λr _=>r=((f.getD j mC).values.length:Int)) B (VH (aeB Y ⟨rfl,rfl⟩))).mono ?_;grind
  ·refine Eq.mpr (L6 (some ⟨q,0,none⟩) (-1) Q k) ?_;unfold Fu;rw [if_pos (by decide)];refine c0 (Z7 λj l=> ?_) k c1;have:=S j l;rw [V j l] at this;exact Bool.eq_false_iff.2 λe=>this.1 e rfl
  ·refine Eq.mpr (L6 (some ⟨q,0,none⟩) (num j).1 Q k) ?_;unfold Fu;have c4:=(num j).2;rw [if_neg (by simp;omega)];have R:pJ af f=some (num j).1.toNat:=by
    unfold pJ;rw [Z9 l (λi E=> ?_) ((S j l).2 hv)]
    ·show some ((af.toNat+j)%f.length)=some ((((af.toNat+j)%f.length:Nat):Int)).toNat;rw [Int.toNat_natCast]
    ·have:=S i (by omega);rw [V i E] at this;exact Bool.eq_false_iff.2 λe=>this.1 e rfl
   generalize (num j).1=y at c4 R hv;obtain ⟨i,rfl⟩:∃i:Nat,y=(i:Int):=⟨y.toNat,by omega⟩;rw [Int.toNat_natCast] at R hv;have E:i<f.length:=by omega
   refine aY (D.ld (shf:=an) x.ag (off:=0) rfl ⟨by omega,?_⟩);obtain ⟨g1,_,oR,put⟩:=C.f1;have b4:Int.tmod (yw ((i:Int)+1)) ((x.ag.len:Nat):Int)=((i+1:Nat):Int)%(f.length:Int):=by rw [wrap64 (by omega) (by omega),b9,H];rfl
   rw [b4];refine aY (oR.st ({x with af:=((i+1:Nat):Int)%(f.length:Int)}:dK) (off:=1) (new:=[.int .i64 (((i+1:Nat):Int)%(f.length:Int))]) (by show 1+1<=2;omega) rfl λk2 o2=> ?_);have c7:=put _ _ o2;refine aY (o2.ld (shf:=an) x.ag (off:=0) rfl ?_);have b3:Has h0 (iz ⟨q,0,none⟩ {x with af:=((i+1:Nat):Int)%(f.length:Int)} s room f) k2:=c7;refine b3.ptr H E ?_;obtain ⟨g2,_,Y,kB⟩:=b3.nX (xO (d:=mC) E);have a8:=xO (d:=mC) E;have a9:=hl.2 _ (List.mem_of_getElem? a8);have c2:∀ {l' G},Has g2 (dW (s.getD i a0) room l') G->Has h0 (eR ⟨q,0,none⟩ room (f.set i l') (((i+1:Nat):Int)%(f.length:Int))) G:=λN=>(kB _ _ N).kR rfl (by rw [List.length_set];exact H);refine U9 (abK Y a9.1 a9.2 (λe=> ?_) (λv vs G e e' N=>⟨⟨trivial,trivial⟩,?_⟩) λv vs z zs G e e' N=>⟨⟨trivial,trivial⟩,?_⟩)
   ·exact absurd (congrArg List.length e) hv
   ·have:=c5 i _ v vs R a8 e G (c2 N);rw [e'] at this;exact this
   grind
 exact key
end
end Lf
namespace Lf
open Go Go.Proofs Tryz
theorem iX {len:Int} {n:Nat} (l:len=(n:Int)) (hb:n<=4611686018427387904) (I:Nat->Hp->Prop) {B:(Int->Hp->Prop)->Int->Hp->Prop} {X:Int->Hp->Prop} {b:Hp} (d:I 0 b)
  (j:∀i:Nat,i<n->∀h,I i h->∀K:Int->Hp->Prop,(∀a,I (i+1) a->K (yw ((i:Int)+1)) a)->B K (i:Int) h) (m:∀h,I n h->X (n:Int) h):
  aA (λc t h=>if decide (t<len)=true then B c t h else X t h) (0:Int) b:=by
 refine aA.intro (λt h=>∃i:Nat,t=(i:Int)/\i<=n/\I i h) (λt _=>(len-t).toNat) ⟨0,rfl,by omega,d⟩ ?_;rintro t h ⟨i,rfl,k,e⟩;by_cases g:i<n
 ·rw [if_pos (decide_eq_true (by omega))];refine j i g h e _ λa f=> ?_;rw [wrap64 (by omega) (by omega)];exact ⟨⟨i+1,by omega,by omega,f⟩,by omega⟩
 grind
section
variable {h:Hp} {a:dO} {c:aW} {s:fA}
end
theorem Ja {a:Type} {l:List a} {i:Nat} {x:a} (h:l[i]? =some x):l.drop i=x::l.drop (i+1):=by obtain ⟨b,rfl⟩:=List.getElem?_eq_some_iff.1 h;simp
section
variable {h:Hp} {a:dO} {c:aW} {s:fA}
end
def Cm (c:aW) (s:fA):Prop:=u7 c s λ(i:Nat) q=>fl c.labels (i:Int) q=true
abbrev RS :Type:=Except (Int×Nat) Nat
section
variable {α β:Type} {a:List UInt8} {r r1 r2:RS}
end
section
variable {d h:Hp} {b:Nat} {c:Sl} {a:List UInt8} {r:RS}
def OS (x:az):List Value:=bu (aN.enc x)
end
def CO :aD:=⟨0,⟨none,0,0⟩,⟨none,0,0⟩⟩
theorem KW {P:Program} {t:Nat} {x y:Operand} {h:Hp} {a:Array Value} (L:List (Field×IntKind×Int)) (i:P.underlying t=some (.struct (L.map (·.1)).toArray)) (k:P.eqGuardType P.depth t=false) (hp:P.stoodInHeld t=false)
  (j:∀q∈L,q.1.name≠ "_" ∧P.underlying q.1.type=some (.int q.2.1)∧a[q.1.offset]? =some (.int q.2.1 q.2.2)):
  ia P (cT .neq t x y (.agg a) (.agg a)) h (.bool false):=by
 refine Eo λw=> ?_;have g:P.fieldsOf t=(L.map (·.1)).toArray:=by unfold Program.fieldsOf;rw [i]
 have n:P.underlying t=some (.struct (P.fieldsOf t)):=by rw [g];exact i
 have e:=run_equalIn_struct (P:=P) w 9999 t a a n hp;rw [g] at e;have f:=NB (P:=P) 9998 a a (L.map λq=>(q.1,q.2.1,q.2.2,q.2.2)) w λq l=>by obtain ⟨o,m,rfl⟩:=List.mem_map.1 l;obtain ⟨b,c,d⟩:=j o m;exact ⟨b,c,d,d⟩
 have b:(L.map λq=>(q.1,q.2.1,q.2.2,q.2.2)).map (·.1)=L.map (·.1):=by rw [List.map_map];rfl
 have c:((L.map λq=>(q.1,q.2.1,q.2.2,q.2.2)).all λq=>q.2.2.1==q.2.2.2)=true:=by simp
 rw [b,c] at f;unfold cT;simp only [Sem.run_bind,run_eqGuard_agg w .neq t x y a a k,Result.andThen_ok,run_neq_struct];rw [show (10000:Nat)=9999+1 from rfl,e];simp only [f,Result.andThen_ok,Bool.not_true]
theorem OW {P:Program} (d:Nat) {e:TypeId} (c:P.underlying e=some (.int .i64)) (b:Array Value):∀(a:List Nat) (w:World),(∀j∈a,∃n,b[j]? =some (.int .i64 n))->(Op.eqItems (d+1) e 1 b b a).run P w=.ok true w
 | [],w,_=>by simp [Op.eqItems]
 | j::a,w,h=>by
  obtain ⟨n,i⟩:=h j (List.mem_cons_self ..);have k:=OW d c b a w λl g=>h l (List.mem_cons_of_mem _ g);have f:(isAgg e).run P w=.ok false w:=by simp [isAgg,run_underlying c]
  simp only [Op.eqItems,Sem.run_bind,part,f,Result.andThen_ok,Bool.false_eq_true,if_false,Nat.mul_one,i,Sem.run_pure,run_equalIn_int w d e .i64 .i64 n n c];simp [k]
theorem RU {P:Program} {t e n:Nat} {x y:Operand} {h:Hp} {a:Array Value} (l:P.underlying t=some (.array n e)) (b:(P.info? e).isSome=true) (f:P.underlying e=some (.int .i64)) (d:P.cellsOf e=1) (g:P.eqGuardType P.depth t=false)
  (m:∀j,j<n->∃v,a[j]? =some (.int .i64 v)):ia P (cT .neq t x y (.agg a) (.agg a)) h (.bool false):=by
 obtain ⟨i,b⟩:=Option.isSome_iff_exists.1 b;refine Eo λw=> ?_;have c:=run_equalIn_array (P:=P) (w:=w) 9999 a a l b;rw [d,OW 9998 f a _ w λj k=>m j (List.mem_range.1 k)] at c;unfold cT;simp only [Sem.run_bind,run_eqGuard_agg w .neq t x y a a g,Result.andThen_ok,run_neq_struct];rw [show (10000:Nat)=9999+1 from rfl,c];simp only [Result.andThen_ok,Bool.not_true]
section
variable {P:Program} {h:Hp} {Q:Bool->Hp->Prop}
theorem Jc {a b:Sl} {c:List Int} (e:Is h a c) (f:Is h b c) (r:c.length<=140737488355328) (o:Q true h):Vj P a b Q h:=by
 unfold Vj;have g:a.len=c.length:=e.1;have j:b.len=c.length:=f.1;rw [if_neg (by rw [g,j];simp)];refine iX (n:=c.length) (by omega) (by omega) (λ_ l=>l=h) rfl ?_ ?_
 ·rintro i q k rfl K m;refine Rs.get (sh:=ab .i64) e (λ_=>rfl) (by omega) (by omega) (by omega) λ(x:Int) p=> ?_;refine Rs.get (sh:=ab .i64) f (λ_=>rfl) (by omega) (by omega) (by omega) λ(y:Int) d=> ?_;rw [p] at d;rw [if_neg (by simp [Option.some.inj d])];exact m k rfl
 ·rintro k rfl;exact o
theorem Mn {x y:dv} (h:rR x=rR y):x=y:=by cases x;cases y;simp [rR] at h;simp [h]
theorem Lk {x y:bB} (h:Cg x=Cg y):x=y:=by cases x;cases y;simp [Cg] at h;simp [h]
theorem zh {c g:Type} {f:c->g} (d:∀ {x y},f x=f y->x=y) {l m:List c} (h:l.map f=m.map f):l=m:=by
 induction l generalizing m with
 | nil=>cases m with
  | nil=>rfl
  | cons b m=>cases h
 | cons a l e=>cases m with
  | nil=>cases h
  | cons b m=>simp only [List.map_cons,List.cons.injEq] at h;rw [d h.1,e h.2]
end
structure GF (c:aW):Prop where
 labels:c.labels.length<=140737488355328
 table:c.table.length<=140737488355328
 procs:c.procs.length<=140737488355328
 code:∀p∈c.procs,p.code.length<=140737488355328
structure tg (l:bH):Prop where
 values:l.values.length<=140737488355328
 waiters:l.waiters.length<=140737488355328
structure vd (s:fA):Prop where
 parts:s.parts.length<=140737488355328
 procs:s.procs.length<=140737488355328
 log:∀x∈s.parts,x.log.length<=140737488355328/\x.aC.length<=140737488355328/\x.au.length<=140737488355328/\∀q∈x.au,q.length<=140737488355328
 ag:∀x∈s.procs,x.ag.length<=140737488355328/\∀l∈x.ag,tg l
section
variable {h:Hp} {Q:Bool->Hp->Prop}
theorem T9 {a b:bA} {l:bH} (c:gI h a l) (d:gI h b l) (o:tg l) (g:Q true h):Su prog a b Q h:=by
 unfold Su;obtain ⟨e,s,r⟩:=c.waiters;obtain ⟨E,p,C⟩:=d.waiters;have:e=E:=zh Lk (r.trans C.symm);subst this;have u:a.dy.len=l.values.length:=c.values.1;have v:b.dy.len=l.values.length:=d.values.1;have w:a.cq.len=e.length:=s.1;have z:b.cq.len=e.length:=p.1;have F:=o.values;have A:=o.waiters;rw [<-r,List.length_map] at A;refine aJ (aJ (aJ ?_));rw [if_neg (by rw [u,v,w,z,c.taken,d.taken,c.dropped,d.dropped];simp)];refine iX (n:=l.values.length) (by omega) (by omega) (λ_ f=>f=h) rfl ?_ ?_
 ·rintro i B k rfl K m;refine Rs.get (sh:=ab .i64) c.values (λ_=>rfl) (by omega) (i:=(i:Int)) (by omega) (by omega) λ(x:Int) t=> ?_;refine Rs.get (sh:=ab .i64) d.values (λ_=>rfl) (by omega) (i:=(i:Int)) (by omega) (by omega) λ(y:Int) j=> ?_;grind
 ·rintro k rfl;refine iX (n:=e.length) (by omega) (by omega) (λ_ f=>f=k) rfl ?_ ?_
  ·rintro i B D rfl K m;refine Rs.get (sh:=aH) s (λ_=>rfl) (by omega) (by omega) (by omega) λx t=> ?_;refine Rs.get (sh:=aH) p (λ_=>rfl) (by omega) (by omega) (by omega) λy j=> ?_;rw [t] at j;cases j;refine ⟨false,KW [(⟨ "Proc",3,0,false, "", "",0⟩,.i64,x.dB),(⟨ "Value",2,1,false, "", "",8⟩,.i64,x.dV)]
    (ae.aM 254 rM rfl) (by kernel_rfl) (by kernel_rfl) (λq g=> ?_),?_⟩
   ·simp only [List.mem_cons,List.not_mem_nil,or_false] at g;rcases g with rfl | rfl
    ·exact ⟨by simp,ae.aM 3 sO rfl,rfl⟩
    ·exact ⟨by simp,ae.aM 2 qF rfl,rfl⟩
   ·dsimp only;rw [if_neg (by simp)];exact m D rfl
  grind
theorem sf {b e:Type} {R S:b->e->Prop} {c d:List b} {a:List e} {i:Nat} {x y:b} (f:cZ R c a) (hb:cZ S d a) (g:c[i]? =some x) (j:d[i]? =some y):∃z,a[i]? =some z/\R x z/\S y z:=by obtain ⟨p,k,l⟩:=f.get g;obtain ⟨q,m,n⟩:=hb.get j;grind
theorem ac5 {a b:aL} {p:ak} (c:cF h a p) (d:cF h b p) (E:p.ag.length<=140737488355328/\∀l∈p.ag,tg l) (T:Q true h):RZ prog a b Q h:=by
 unfold RZ;obtain ⟨H,m,f⟩:=c.ag;obtain ⟨I,o,g⟩:=d.ag;have r:=f.len;have s:=g.len;have t:a.eO.len=H.length:=m.1;have u:b.eO.len=I.length:=o.1;have q: [a.bW,a.bX,a.bY,a.bZ,a.cc,a.cd,a.cf,a.cg]=[b.bW,b.bX,b.bY,b.bZ,b.cc,b.cd,b.cf,b.cg]:=c.bJ.trans d.bJ.symm;simp only [List.cons.injEq,and_true] at q;obtain ⟨J,L,r2,M,N,O,P,R⟩:=q;refine aJ ⟨false,λ_=> ?_,?_⟩
 ·rw [J,L,r2,M,N,O,P,R];refine RU (n:=8) (e:=2) (ae.aM 79 xL rfl) (by kernel_rfl) (ae.aM 2 qF rfl) (by kernel_rfl) (by kernel_rfl) λj D=> ?_
  match j,D with
  | 0,_=>exact ⟨_,rfl⟩
  | 1,_=>exact ⟨_,rfl⟩
  | 2,_=>exact ⟨_,rfl⟩
  | 3,_=>exact ⟨_,rfl⟩
  | 4,_=>exact ⟨_,rfl⟩
  | 5,_=>exact ⟨_,rfl⟩
  | 6,_=>exact ⟨_,rfl⟩
  | 7,_=>exact ⟨_,rfl⟩
 refine aJ (aJ (aJ (aJ (aJ (aJ ?_)))));rw [if_neg (by rw [c.state,d.state,c.pc,d.pc,c.af,d.af,c.timer,d.timer,c.bN,d.bN,c.cQ,d.cQ,t,u,r,s];simp)];refine iX (n:=p.ag.length) (by omega) (by omega) (λ_ v=>v=h) rfl ?_ ?_
 ·rintro i S k rfl K C;refine Rs.get (sh:=aX) m (λ_=>rfl) (by omega) (i:=(i:Int)) (by omega) (by omega) λx F=> ?_;refine Rs.get (sh:=aX) o (λ_=>rfl) (by omega) (i:=(i:Int)) (by omega) (by omega) λy G=> ?_;obtain ⟨z,w,A,B⟩:=sf f g F G;refine ztd (T9 A B (E.2 z (List.mem_of_getElem? w)) ?_);rw [if_neg (by simp)];exact C k rfl
 grind
theorem Ua {a b:bf} {p:dt} (c:eV h a p) (d:eV h b p) (O:p.log.length<=140737488355328/\p.aC.length<=140737488355328/\p.au.length<=140737488355328/\∀q∈p.au,q.length<=140737488355328) (f:Q true h):Sq prog a b Q h:=by
 unfold Sq;obtain ⟨e,t,s⟩:=c.log;obtain ⟨H,u,M⟩:=d.log;have:e=H:=zh Mn (s.trans M.symm);subst this;obtain ⟨T,v,o⟩:=c.au;obtain ⟨U,w,r⟩:=d.au;have B:=o.len;have C:=r.len;have D:a.di.len=T.length:=v.1;have E:b.di.len=U.length:=w.1;have F:a.Log.len=e.length:=t.1;have G:b.Log.len=e.length:=u.1;obtain ⟨P,R,V,S⟩:=O;rw [<-s,List.length_map] at P;refine aJ (aJ (aJ (aJ ?_)));rw [if_neg (by rw [c.af,d.af,c.lost,d.lost,c.forbidden,d.forbidden,D,E,F,G,B,C];simp)];refine iX (n:=e.length) (by omega) (by omega) (λ_ j=>j=h) rfl ?_ ?_
 ·rintro i N k rfl K l;refine Rs.get (sh:=cK) t (λ_=>rfl) (by omega) (by omega) (by omega) λx m=> ?_;refine Rs.get (sh:=cK) u (λ_=>rfl) (by omega) (by omega) (by omega) λy g=> ?_;rw [m] at g;cases g;refine ⟨false,KW [(⟨ "Tick",2,0,false, "", "",0⟩,.i64,x.ee),(⟨ "Proc",3,1,false, "", "",8⟩,.i64,x.dB),(⟨ "Value",2,2,false, "", "",16⟩,.i64,x.dV)]
   (ae.aM 121 tN rfl) (by kernel_rfl) (by kernel_rfl) (λq f=> ?_),?_⟩
  ·simp only [List.mem_cons,List.not_mem_nil,or_false] at f;rcases f with rfl | rfl | rfl
   ·exact ⟨by simp,ae.aM 2 qF rfl,rfl⟩
   ·exact ⟨by simp,ae.aM 3 sO rfl,rfl⟩
   ·exact ⟨by simp,ae.aM 2 qF rfl,rfl⟩
  ·dsimp only;rw [if_neg (by simp)];exact l k rfl
 ·rintro k rfl;refine iX (n:=p.au.length) (by omega) (by omega) (λ_ j=>j=k) rfl ?_ ?_
  ·rintro i N A rfl K l;refine Rs.get (sh:=an) v (λ_=>rfl) (by omega) (i:=(i:Int)) (by omega) (by omega) λx m=> ?_;refine Rs.get (sh:=an) w (λ_=>rfl) (by omega) (i:=(i:Int)) (by omega) (by omega) λy g=> ?_;obtain ⟨z,I,J,L⟩:=sf o r m g;refine znx (Jc J L (S z (List.mem_of_getElem? I)) ?_);rw [if_neg (by simp)];exact l A rfl
  ·rintro A rfl;exact znx (Jc c.aC d.aC R f)
theorem Je {a b:aD} {s:fA} (m:cO h a s) (o:cO h b s) (c:vd s) (S:Q true h):Vf prog a b Q h:=by
 unfold Vf;obtain ⟨N,v,q⟩:=m.parts;obtain ⟨P,A,t⟩:=o.parts;obtain ⟨O,w,r⟩:=m.procs;obtain ⟨R,B,u⟩:=o.procs;have C:=q.len;have D:=t.len;have E:=r.len;have F:=u.len;have G:a.bz.len=N.length:=v.1;have H:b.bz.len=P.length:=A.1;have I:a.aE.len=O.length:=w.1;have J:b.aE.len=R.length:=B.1;have T:=c.parts;have U:=c.procs;refine aJ (aJ ?_);rw [if_neg (by rw [m.tick,o.tick,G,H,I,J,C,D,E,F];simp)];refine iX (n:=s.parts.length) (by omega) (by omega) (λ_ d=>d=h) rfl ?_ ?_
 ·rintro i L k rfl K p;refine Rs.get (sh:=aP) v (λ_=>rfl) (by omega) (i:=(i:Int)) (by omega) (by omega) λx j=> ?_;refine Rs.get (sh:=aP) A (λ_=>rfl) (by omega) (i:=(i:Int)) (by omega) (by omega) λy l=> ?_;obtain ⟨z,e,f,g⟩:=sf q t j l;refine ztb (Ua f g (c.log z (List.mem_of_getElem? e)) ?_);grind
 ·rintro k rfl;refine iX (n:=s.procs.length) (by omega) (by omega) (λ_ d=>d=k) rfl ?_ ?_
  ·rintro i L M rfl K p;refine Rs.get (sh:=aF) w (λ_=>rfl) (by omega) (i:=(i:Int)) (by omega) (by omega) λx j=> ?_;refine Rs.get (sh:=aF) B (λ_=>rfl) (by omega) (i:=(i:Int)) (by omega) (by omega) λy l=> ?_;obtain ⟨z,e,f,g⟩:=sf r u j l;refine zra (ac5 f g (c.ag z (List.mem_of_getElem? e)) ?_);rw [if_neg (by simp)];exact p M rfl
  grind
end
theorem gE.rows {d:Type} {h:Hp} {b:Nat} {a:List Value} {sz:Nat} {enc:d->List Value} (k:gE h b a) (c:List d) {n m:Nat} (e:a=c.flatMap enc) (g:n=c.length) (f:∀x,(enc x).length=sz):Rw h sz enc ⟨some ⟨b,0,none⟩,n,m⟩ c:=by refine ⟨g,by rw [jo f],.inr ⟨_,rfl,?_⟩⟩;refine k.nY (off:=0) (n:=a.length) ?_;rw [List.drop_zero,List.take_length,e]
end Lf
namespace Lf
open Go Go.ChangeShapes Go.WideShapes Go.ChangeAt Go.RowKit
def whole (W:World):Hp:=λb=>W.heap[b]?
theorem aab (W:World):Sub (whole W) W:=λ_ _ e=>e
theorem Ub (W:World) (a:Addr):dw (whole W) a=W.cell? a:=rfl
theorem Qh {W a:World} {b:Hp} (c:whole W<=b) (st:Step (whole W) b W a):Below W.heap.size W a:=
 ⟨st.os,st.tape,st.output,st.size,λk d=>by
  cases e:W.heap[k]? with
  | some o=>exact st.sub _ _ (c _ _ e)
  | none=>simp at e;omega⟩
theorem KX {H:Type} {enc:TypeId×Value->H} {P:Program} (i:laidOutB P=true) {W g:World} {sp:Nat->Bool} (hb:Below W.heap.size W g):∀ {c:List TypeId} {f:List Value} {e:List (DataW H)} {b:List MemPlace},
  (∀t∈c,P.readableRec t=true/\t<P.types.size)->DataW.TrodAll enc P W 0 (λ_=>true) true c f e b->(∀x∈b,x.block<W.heap.size)->(∀x∈b,sp x.block=true)->DataW.TrodAll enc P g 0 sp true c f e b
 | [],_,_,_,_,h,_,_=>by obtain ⟨rfl,rfl,rfl⟩:=trodAll_nil h;exact trodAll_mk0
 | t::c,_,_,_,k,h,j,l=>by
  obtain ⟨v,f,d,e,p,q,rfl,rfl,rfl,m,n⟩:=trodAll_cons h;obtain ⟨o,r⟩:=k t (List.mem_cons_self ..);exact ⟨p,q,WideElems.Trod_stays i o r m (λx a=>hb.same (j x (List.mem_append_left _ a))) (λx a=>l x (List.mem_append_left _ a)),
   KX i hb (λt s=>k t (List.mem_cons_of_mem _ s)) n (λx a=>j x (List.mem_append_right _ a)) (λx a=>l x (List.mem_append_right _ a)),rfl⟩
theorem acE {H:Type} {enc:TypeId×Value->H} {P:Program} {f:Func} {s:ChangeSpec} {W d:World} {h:Hp} {args:Array Value} {a gs:List (DataW H)} {g:List MemPlace} {t:TypeId} (o:laidOutB P=true)
  (u:∀t∈f.params.toList,P.readableRec t=true/\t<P.types.size) (k:s.vars=[]) (v:f.resultTypes= #[t]) (w:P.underlying t=some .bool)
  (n:gs=[]->s.fn H (a++gs)={results:=[.lit (.bool true)],args:=a}) (b:DataW.Whole enc P f.params.toList s.vars false W args.toList a gs g) (r:whole W<=h) (st:Step (whole W) h W d):
  s.post enc P f false true false false W args (.bool true) d:=by
 have hb:=Qh r st;have j:∀p∈g,p.block<W.heap.size:=λp hp=>b.lt p hp;have m:=b;obtain ⟨p,q,l,i,rfl,y,z⟩:=m;rw [k] at i;obtain ⟨rfl,rfl⟩:=trodVars_none i;rw [List.append_nil] at j;have c:=n rfl;refine ⟨a,[],p++ [],[],p,[],b,?_,?_,?_,Below.frame hb _,λe=>(by cases e)⟩
 ·rw [c,v];exact trodAll_mk1 (shut_bool w true)
 ·rw [c];exact KX o hb u l j (λx A=>by grind)
 ·rw [c,k];exact rfl
theorem ri {H:Type} {enc:TypeId×Value->H} {C:Checked} {os:Os} {f:FuncId} {fn:Func} {s:ChangeSpec} {t:TypeId} (own:ownKnob C.prog.godebug=none) (L:os.Started) (K:C.prog.inits.idxOf? f=none) (o:C.prog.funcs[f]? =some fn)
  (N:∃(w:World) (tape:Tape) (i:Input),w.os=os/\(w.forCall tape i).Shaped C.prog/\i.vars=[]/\Input.okWide C.prog (w.forCall tape i) .any w.heap.size f i/\
   s.pre6 enc C.prog fn [] false (w.forCall tape i).memory i.args/\({}:Assume).holds C.prog (lone (Frame.enter C.prog f i.args .normal) [] (w.forCall tape i)))
  (z:laidOutB C.prog=true) (B:∀t∈fn.params.toList,C.prog.readableRec t=true/\t<C.prog.types.size) (b:s.vars=[]) (D:fn.resultTypes= #[t]) (G:C.prog.underlying t=some .bool)
  (M:∀(W:World) (base:Nat) (args:Array Value) (a:List (DataW H)) (p:List MemPlace),(∀(j:Nat) t v,fn.params[j]? =some t->args[j]? =some v->Value.okWide C.prog W .any base t v)->DataW.TrodAll enc C.prog W 0 (λ_=>true) true fn.params.toList args.toList a p->
   (DataW.weightsEach C.prog fn.params.toList a).all (· <=reachBytes)=true->
   s.fn H a={results:=[.lit (.bool true)],args:=a}/\aa C.prog f args.toList aR (λr c=>r=true/\whole W<=c) (whole W)):
  ReturnsInHanded {} C os f .any (s.pre6 enc C.prog fn [] false) (s.post enc C.prog fn false true false false):=by
 refine returnsInHanded_of_change_sized own L K o N ?_;intro W base args a gs P I g Q k _;have m:=g;obtain ⟨p,q,l,d,_,R,S⟩:=m;have u:gs=[]:=by rw [b] at d;exact (trodVars_none d).1
 subst u;have J:s.plain.varTypes C.prog=[]:=by unfold ChangeSpec.plain DataSpec.varTypes;rw [b];rfl
 rw [J,List.append_nil,List.append_nil] at k;obtain ⟨E,n⟩:=M W base args a p I l k;have h:=n W (aab W);simp only [Array.toArray_toList] at h;refine h.mono λe O y=> ?_;obtain ⟨v,c,rfl,⟨x,rfl,rfl,A⟩,F⟩:=y;exact ⟨_,rfl,acE z B b D G (λe=>by rw [e,List.append_nil];exact E) g A F⟩
theorem ML {x:Int} (h:(Lit.int .u64 x).wf=true):0<=x/\x<18446744073709551616:=by simp [Lit.wf,IntKind.min,IntKind.max,IntKind.signed,IntKind.bits] at h;omega
theorem Pt {x:Int} (h:(Lit.int .i64 x).wf=true): -9223372036854775808<=x/\x<=9223372036854775807:=by simp [Lit.wf,IntKind.min,IntKind.max,IntKind.signed,IntKind.bits] at h;omega
end Lf
namespace Lf
open Go Go.Proofs Go.ChangeShapes Go.WideShapes Go.ChangeAt Go.RowKit
section
variable {H:Type} {enc:TypeId×Value->H} {P:Program} {W:World}
def lr (enc:TypeId×Value->H) (P:Program) (W:World) (t:TypeId) (R:List Value->Prop):Prop:=
 ∀fuel a y,DataW.trod enc P W 0 (λ_=>true) true fuel t a=some y->(DataW.weights P t y.1).all (· <=reachBytes)=true->R a
theorem Dd {t:TypeId} {k:IntKind} (b:P.underlying t=some (.int k)):lr enc P W t λa=>∃n,a=[.int k n]/\(Lit.int k n).wf=true:=λfuel a y h _=>by obtain ⟨n,c,_,d⟩:=DataW.trod_int b h;grind
theorem D8 {l m:List Nat} {p:Nat->Bool} (h:(l++m).all p=true):l.all p=true/\m.all p=true:=by grind
theorem HV {e:TypeId}:∀ {l:List (DataW H)} {d:DataW H},d∈l->(DataW.weightsAll P e l).all (· <=reachBytes)=true->(DataW.weights P e d).all (· <=reachBytes)=true
 | d::r,c,hm,h=>by
  rw [DataW.weightsAll] at h;obtain ⟨a,b⟩:=D8 h;rcases List.mem_cons.1 hm with rfl | hm
  ·exact a
  ·exact HV hm b
theorem v7 :∀ {ts:List TypeId} {a:List (DataW H)} {i:Nat} {t:TypeId} {d:DataW H},ts[i]? =some t->a[i]? =some d->(DataW.weightsEach P ts a).all (· <=reachBytes)=true->(DataW.weights P t d).all (· <=reachBytes)=true
 | [],_,i,t,d,h,_,_=>by simp at h
 | _::_,[],i,t,d,_,h,_=>by simp at h
 | t::ts,d::a,0,f,e,b,c,h=>by simp at b c;subst b c;rw [DataW.weightsEach] at h;grind
 | t::ts,d::a,i+1,f,e,b,c,h=>by rw [DataW.weightsEach] at h;exact v7 (by simpa using b) (by simpa using c) (D8 h).2
theorem ph {t:TypeId} {a:Array Field} {fuel:Nat} {d:List Value} {y:DataW H×List MemPlace} (g:P.underlying t=some (.struct a)) (h:DataW.trod enc P W 0 (λ_=>true) true fuel t d=some y) (c:(DataW.weights P t y.1).all (· <=reachBytes)=true)
  {i n off:Nat} {f:Field} {R:List Value->Prop} (b:a[i]? =some f) (q:f.offset=off) (k:P.cellsOf f.type=n) (j:lr enc P W f.type R):R ((d.drop off).take n):=by
 subst q;obtain ⟨r,m,_,rfl,s,p,l⟩:=DataW.trod_struct g h;have e:=l i f b;have o:i<r.length:=by rw [p];exact (Array.getElem?_eq_some_iff.1 b).1
 rw [List.getElem?_eq_getElem o,k] at e;refine j m _ _ e ?_;dsimp only at c;rw [DataW.weights,g] at c;refine v7 (i:=i) (ts:=a.toList.map (·.type)) ?_ ?_ c
 ·rw [List.getElem?_map,Array.getElem?_toList,b];rfl
 grind
theorem wZ {t:TypeId} {b:Array Field} {fuel:Nat} {a:List Value} {y:DataW H×List MemPlace} (d:P.underlying t=some (.struct b)) (h:DataW.trod enc P W 0 (λ_=>true) true fuel t a=some y):a.length=P.cellsOf t:=by obtain ⟨g,m,_,rfl,c,f,e⟩:=DataW.trod_struct d h;exact c
theorem pf {b a:List Value} {off n m:Nat} (h:(b.drop off).take n=a) (c:off+n=m):b.drop off=a++b.drop m:=by rw [<-c,<-h,<-List.drop_drop,List.take_append_drop]
structure pw {α:Type} (W:World) (sz:Nat) (en:α->List Value) (gO:α->Prop) (l:Sl) (xs:List α):Prop where
 Aa:Rw (whole W) sz en l xs
 cap:l.len<=l.cap
 lU:l.cap<=9223372036854775807
 jW:xs.length<=140737488355328
 all:∀x∈xs,gO x
theorem Nx {t e:TypeId} {u:Type} (E:P.underlying t=some (.slice e)) (f:u->List Value) (gO:u->Prop) {sz:Nat} (S:P.cellsOf e=sz) (hb:0<P.bytesOf e) (L:lr enc P W e λd=>∃x,d=f x/\gO x) (D:∀x,(f x).length=sz):
  lr enc P W t λd=>∃(l:Sl) (b:List u),d=[l.v]/\pw W sz f gO l b:=by
 intro fuel d y h o;subst S;rcases DataW.trod_slice E h with ⟨w,_⟩ | ⟨a,s,F,k,rest,n,_,w,K,Y,O,Q,a9,M,_,_⟩
 ·exact ⟨⟨none,0,0⟩,[],w,⟨⟨rfl,by simp,.inl (by simp)⟩,Nat.le_refl _,by simp,by simp,λx r=>by cases r⟩⟩
 ·subst K;dsimp only at o;rw [DataW.weights,E] at o;dsimp only at o;rw [List.all_cons,Bool.and_eq_true,decide_eq_true_eq] at o;obtain ⟨T,A⟩:=o;have A:=(D8 A).1;have I:∀i,i<s->∃x,gO x/\bG (whole W) (a.add (i*P.cellsOf e)) (f x):=by
   intro i N;have c:=M i N;have g:k[i]? =some k[i]:=List.getElem?_eq_getElem (by omega);rw [g] at c;cases C:W.cells? 0 (a.add (i*P.cellsOf e)) (P.cellsOf e) with
   | none=>grind
   | some d=>rw [C] at c;obtain ⟨_,Z,J⟩:=World.cells?_some C;obtain ⟨x,r,z⟩:=L n d _ c (HV (List.mem_map.2 ⟨k[i],List.mem_of_getElem? g,rfl⟩) A);refine ⟨x,z,λj v p=> ?_⟩;have a8:j<(f x).length:=(List.getElem?_eq_some_iff.1 p).1;rw [Ub,J j (by grind),r];exact p
  have build:∀m,m<=s->∃b:List u,b.length=m/\(∀x∈b,gO x)/\∀i x,b[i]? =some x->bG (whole W) (a.add (i*P.cellsOf e)) (f x):=by
   intro m
   induction m with
   | zero=>simp
   | succ m U=>
    intro b0;obtain ⟨b,c,g,B⟩:=U (by omega);obtain ⟨x,z,r⟩:=I m (by omega);refine ⟨b++ [x],by simp [c],λy hy=> ?_,λi y hy=> ?_⟩
    ·rcases List.mem_append.1 hy with hy | hy
     ·exact g y hy
     ·rw [List.mem_singleton.1 hy];exact z
    grind
  obtain ⟨b,c,g,B⟩:=build s (Nat.le_refl _);refine ⟨⟨some a,s,F⟩,b,w,⟨⟨c.symm,jo D b,.inr ⟨a,rfl,λi v hv=> ?_⟩⟩,O,Q,?_,g⟩⟩
  ·obtain ⟨q,x,j,R,p,G⟩:=Lz D b i v hv;rw [G];rw [<-s6];exact B q x R j v p
  ·have V:reachBytes<=140737488355328:=by decide
   rw [List.length_map,List.length_map] at T;have X:k.length+rest.length<=(k.length+rest.length)*P.bytesOf e:=Nat.le_mul_of_pos_right _ hb;omega
end
section
variable {H:Type} {enc:TypeId×Value->H} {W:World}
theorem li :lr enc Tryz.prog W 3 λa=>∃n,a=[.int .i64 n]/\(Lit.int .i64 n).wf=true:=Dd (ae.aM 3 sO rfl)
theorem Hb :lr enc Tryz.prog W 2 λa=>∃n,a=[.int .i64 n]/\(Lit.int .i64 n).wf=true:=Dd (ae.aM 2 qF rfl)
theorem Hc :lr enc Tryz.prog W 28 λa=>∃n,a=[.int .u64 n]/\(Lit.int .u64 n).wf=true:=Dd (ae.aM 28 CT rfl)
theorem yG {x:Int} (h:(Lit.int .i64 x).wf=true):ug x:=by have:=Pt h;unfold ug;omega
abbrev eI (x:Int):List Value:=bu ((ab .i64).enc x)
abbrev eU (x:Int):List Value:=bu ((ab .u64).enc x)
abbrev xw (x:bc):List Value:=bu (bn.enc x)
abbrev tA (x:aS):List Value:=bu (bq.enc x)
theorem kj :Tryz.prog.cellsOf 3=1:=by kernel_rfl
theorem L7 :Tryz.prog.cellsOf 2=1:=by kernel_rfl
theorem KO :Tryz.prog.cellsOf 28=1:=by kernel_rfl
theorem zH :Tryz.prog.cellsOf 87=5:=by kernel_rfl
theorem Pw :Tryz.prog.cellsOf 75=1:=by kernel_rfl
theorem MN :Tryz.prog.cellsOf 77=2:=by kernel_rfl
theorem ad6 :Tryz.prog.cellsOf 24=1:=by kernel_rfl
theorem OR :Tryz.prog.cellsOf 22=1:=by kernel_rfl
theorem OQ :Tryz.prog.cellsOf 23=1:=by kernel_rfl
theorem vk :Tryz.prog.cellsOf 26=7:=by kernel_rfl
theorem O4 :lr enc Tryz.prog W 23 λa=>∃(l:Sl) (d:List Int),a=[l.v]/\pw W 1 eI (λ_=>True) l d:=
 Nx (ae.aM 23 pG rfl) eI _ kj (by rw [show Tryz.prog.bytesOf 3=8 by kernel_rfl];omega) (λf a y h c=>by obtain ⟨n,b,_⟩:=li f a y h c;exact ⟨n,b,trivial⟩) λ_=>rfl
theorem O5 :lr enc Tryz.prog W 22 λa=>∃(l:Sl) (e:List Int),a=[l.v]/\pw W 1 eU jq l e:=
 Nx (ae.aM 22 vY rfl) eU _ KO (by rw [show Tryz.prog.bytesOf 28=8 by kernel_rfl];omega) (λf a y h d=>by obtain ⟨n,b,c⟩:=Hc f a y h d;exact ⟨n,b,ML c⟩) λ_=>rfl
theorem G9 :lr enc Tryz.prog W 87 λc=>∃x,c=xw x/\ug x.iV:=λf c y h b=>by have a:=ae.aM 87 xM rfl;have d:=wZ a h;rw [zH] at d;obtain ⟨a0,g,_⟩:=ph a h b (i:=0) (off:=0) rfl rfl kj li;obtain ⟨a1,j,_⟩:=ph a h b (i:=1) (off:=1) rfl rfl kj li;obtain ⟨a2,k,_⟩:=ph a h b (i:=2) (off:=2) rfl rfl kj li;obtain ⟨a3,l,_⟩:=ph a h b (i:=3) (off:=3) rfl rfl kj li;obtain ⟨a4,n,o⟩:=ph a h b (i:=4) (off:=4) rfl rfl L7 Hb;refine ⟨⟨a0,a1,a2,a3,a4⟩,?_,yG o⟩;have e:c=c.drop 0:=rfl;rw [e,pf (m:=1) g rfl,pf (m:=2) j rfl,pf (m:=3) k rfl,pf (m:=4) l rfl,pf (m:=5) n rfl,List.drop_of_length_le (Nat.le_of_eq d)];rfl
theorem PA :lr enc Tryz.prog W 75 λa=>∃(l:Sl) (b:List bc),a=[l.v]/\pw W 5 xw (λx=>ug x.iV) l b:=
 Nx (ae.aM 75 xK rfl) xw _ zH (by rw [show Tryz.prog.bytesOf 87=40 by kernel_rfl];omega) G9 λ_=>rfl
def zi (W:World) (q:aS):Prop:=∃a,pw W 5 xw (λx=>ug x.iV) q.Code a
theorem PE :lr enc Tryz.prog W 77 λa=>∃x,a=tA x/\zi W x:=λf a y h d=>by have b:=ae.aM 77 CV rfl;have c:=wZ b h;rw [MN] at c;obtain ⟨a0,j,_⟩:=ph b h d (i:=0) (off:=0) rfl rfl kj li;obtain ⟨l,n,k,g⟩:=ph b h d (i:=1) (off:=1) rfl rfl Pw PA;refine ⟨⟨a0,l⟩,?_,n,g⟩;have e:a=a.drop 0:=rfl;rw [e,pf (m:=1) j rfl,pf (m:=2) k rfl,List.drop_of_length_le (Nat.le_of_eq c)];rfl
theorem ad7 :lr enc Tryz.prog W 24 λa=>∃(l:Sl) (b:List aS),a=[l.v]/\pw W 2 tA (zi W) l b:=
 Nx (ae.aM 24 xI rfl) tA _ MN (by rw [show Tryz.prog.bytesOf 77=32 by kernel_rfl];omega) PE λ_=>rfl
structure zB (W:World) (x:az):Prop where
 labels:∃ls,pw W 1 eU jq x.be ls
 table:∃ts,pw W 1 eI (λ_=>True) x.Table ts
 procs:∃ps,pw W 2 tA (zi W) x.aE ps
theorem zQ :lr enc Tryz.prog W 26 λc=>∃x,c=OS x/\zB W x:=λf c y h b=>by have a:=ae.aM 26 CR rfl;have d:=wZ a h;rw [vk] at d;obtain ⟨t,w,l,g⟩:=ph a h b (i:=0) (off:=0) rfl rfl OR O5;obtain ⟨u,z,n,j⟩:=ph a h b (i:=1) (off:=1) rfl rfl OQ O4;obtain ⟨a2,o,_⟩:=ph a h b (i:=2) (off:=2) rfl rfl kj li;obtain ⟨a3,p,_⟩:=ph a h b (i:=3) (off:=3) rfl rfl kj li;obtain ⟨a4,q,_⟩:=ph a h b (i:=4) (off:=4) rfl rfl kj li;obtain ⟨a5,r,_⟩:=ph a h b (i:=5) (off:=5) rfl rfl kj li;obtain ⟨v,A,s,k⟩:=ph a h b (i:=6) (off:=6) rfl rfl ad6 ad7;refine ⟨⟨t,u,a2,a3,a4,a5,v⟩,?_,⟨w,g⟩,⟨z,j⟩,A,k⟩;have e:c=c.drop 0:=rfl;rw [e,pf (m:=1) l rfl,pf (m:=2) n rfl,pf (m:=3) o rfl,pf (m:=4) p rfl,pf (m:=5) q rfl,pf (m:=6) r rfl,pf (m:=7) s rfl,List.drop_of_length_le (Nat.le_of_eq d)];rfl
end
theorem L8 {b c:Type} {R:b->c->Prop} {G:c->Prop}:∀ {l:List b},(∀x∈l,∃p,R x p/\G p)->∃m,cZ R l m/\∀p∈m,G p
 | [],_=>⟨[],trivial,λp hp=>by cases hp⟩
 | a::l,h=>by obtain ⟨p,d,g⟩:=h a (List.mem_cons_self ..);obtain ⟨m,e,i⟩:=L8 (l:=l) λx f=>h x (List.mem_cons_of_mem _ f);refine ⟨p::m,⟨d,e⟩,λq j=> ?_⟩;grind
section
variable {W:World}
theorem ad8 {q:aS} (k:zi W q):∃p,j3 (whole W) q p/\((∀x∈p.code,ug x.mS)/\p.code.length<=140737488355328):=by
 obtain ⟨a,h⟩:=k;refine ⟨⟨q.Part,a.map bD⟩,⟨rfl,a,h.Aa,rfl⟩,λx b=> ?_,?_⟩
 ·obtain ⟨y,c,rfl⟩:=List.mem_map.1 b;exact h.all y c
 ·show (a.map bD).length<=_;rw [List.length_map];exact h.jW
theorem MP {x:az} (k:zB W x):∃c,dQ (whole W) x c/\Typed c/\GF c:=by obtain ⟨j,b⟩:=k.labels;obtain ⟨n,e⟩:=k.table;obtain ⟨l,d⟩:=k.procs;obtain ⟨m,f,g⟩:=L8 λq i=>ad8 (d.all q i);have r:=f.len;have o:=d.jW;refine ⟨⟨j,n,x.Fuel,x.hZ,x.cv,x.Log,m⟩,⟨b.Aa,e.Aa,rfl,rfl,rfl,rfl,l,d.Aa,f⟩,⟨λa h=> ?_,λp hp=>(g p hp).1⟩,⟨b.jW,e.jW,by show m.length<=_;omega,λp hp=>(g p hp).2⟩⟩;have:=b.all a h;omega
end
section
variable {H:Type} {enc:TypeId×Value->H} {W:World}
theorem PH {v:Value} {b:List Value} (h:v.cells.toList=b) (c:b.length≠1):v=.agg b.toArray:=by
 cases v with
 | agg a=>rw [<-h];rfl
 | _=>subst h;simp [Value.cells] at c
end
end Lf
namespace Lf
open Go Go.Proofs Tryz
theorem KP {c:aW} (b:Typed c):∀l∈c.labels,jq l:=λl a=>⟨(b.1 l a).1,(b.1 l a).2⟩
section
variable {c:aW} {t:fA} {s:MS}
theorem acG (m:cH c):Cm c t↔u7 c t λi y=>iE c i y.toNat=true:=by
 have key:∀(p:Nat) x y,t.procs[p]? =some x->c.procs[p]? =some y->(tn c t (λ(i:Nat) q=>fl c.labels (i:Int) q=true) x y↔tn c t (λi y=>iE c i y.toNat=true) x y):=λp x y _ a=>by
  have hp:=(m.part y (List.mem_of_getElem? a)).1;have e:∀i:Nat,iE c i y.part.toNat=fl c.labels (i:Int) y.part:=λi=>by unfold iE;rw [show ((y.part.toNat:Nat):Int)=y.part by omega]
  unfold tn;simp only [e]
 unfold Cm u7;constructor
 ·rintro ⟨d,f,g,h⟩;exact ⟨d,f,λp x y b a=>(key p x y b a).1 (g p x y b a),h⟩
 ·rintro ⟨d,f,g,h⟩;exact ⟨d,f,λp x y b a=>(key p x y b a).2 (g p x y b a),h⟩
theorem Hm {h:Hp} {y:aD} (b:cO h y t):∀x∈t.procs,x.bJ.length=8:=λx j=>by
 obtain ⟨d,_,e⟩:=b.procs;obtain ⟨i,f⟩:=List.mem_iff_getElem?.1 j;have:∃z,d[i]? =some z/\cF h z x:=by have k:=e.len;have l:=(List.getElem?_eq_some_iff.1 f).1;obtain ⟨z,g,a⟩:=e.get (i:=i) (List.getElem?_eq_getElem (show i<d.length by omega));rw [f] at g;cases g;exact ⟨_,List.getElem?_eq_getElem (show i<d.length by omega),a⟩
 obtain ⟨z,_,a⟩:=this;rw [<-a.bJ];rfl
end
section
variable {k:Hp} {x:az} {y:aD} {c:aW} {t:fA}
structure nO (k:Hp) (c:aW) (t:fA) (pm:Addr) (k':Hp):Prop where
 ex:∃K tm h1,K.c=c/\dC h1 K/\k<=h1/\Has h1 (aK K pm (bp t) tm) k'/\dG c tm (bp t)
 gO:Good c (iE c) (bp t) No No t.tick
 parts:t.parts.length=nP c
 procs:t.procs.length=nQ c
theorem xP {Q:Option Addr->Int->Hp->Prop} (a:dQ k x c) (u:∀l∈c.labels,jq l) (q:∀b,k<=b->(gN c).1≠0->Q none (gN c).1 b)
  (s:∀pm b,(gN c).1=0->k<=b->nO k c ((pj c).list c) pm b->Q (some pm) 0 b):zzr prog x Q k:=by
 unfold zzr;refine KA (Nl a λv f=> ?_);by_cases d:(gN c).1=0
 ·rw [d,if_neg (by decide)];have e:=lZ d;refine Vu (acB (a.mono f) e λr B w j=>⟨⟨trivial,trivial⟩,?_⟩);have hp:((pj c).list c).parts.length=nP c:=by show ((List.range (nP c)).map _).length=_;simp
  have i:((pj c).list c).procs.length=nQ c:=by show ((List.range (nQ c)).map _).length=_;simp
  have h:=Hp.le_trans f w;have g:=L3 e (Good.may e (Good.first (fl:=iE c) e) (by show (0:Int)<=_;decide)) (Hm j);refine XU (adZ (a.mono h) j u d (ad0 e g hp i) λK pm A p b n mk m o z=>s pm b d (Hp.le_trans h (Hp.le_trans m o.le)) ⟨⟨K,A,p,n,mk,Hp.le_trans h m,o,z⟩,g,hp,i⟩)
 ·rw [if_pos (by simpa using d)];exact q v f d
end
section
variable {c:aW} {s:MS} {t:fA}
theorem ad9 {i:Nat} (a:i<nP c):(bp (s.list c)).part i=s.part i:=by show ((List.range (nP c)).map s.part).getD i lL=_;grind
theorem L9 {i:Nat} (a:i<nQ c):(bp (s.list c)).proc i=s.proc i:=by show ((List.range (nQ c)).map s.proc).getD i og=_;grind
theorem XD :(s.list c).parts.length=nP c:=by show ((List.range (nP c)).map _).length=_;simp
theorem XF :(s.list c).procs.length=nQ c:=by show ((List.range (nQ c)).map _).length=_;simp
theorem ye {K:MK} {pm:Addr} {a:Nat->Nat->Int} (e:K.c=c):aK K pm (bp (s.list c)) a=aK K pm s a:=by
 subst e;unfold aK;have d:eh.first (λi=>pQ K i ((bp (s.list K.c)).part i) (a i)) (nP K.c)=eh.first (λi=>pQ K i (s.part i) (a i)) (nP K.c):=tT λi b=>by rw [ad9 b]
 have f:eh.first (λp=>pS K p ((bp (s.list K.c)).proc p)) (nQ K.c)=eh.first (λp=>pS K p (s.proc p)) (nQ K.c):=tT λi b=>by rw [L9 b]
 rw [d,f];rfl
theorem yM {a:Nat->Nat->Int} (d:dG c a s):dG c a (bp (s.list c)):=λi id b=>by
 rw [d i id b];unfold nE;by_cases h:id / 2<nQ c/\aB c (id / 2)=i
 ·rw [if_pos h,if_pos h,L9 h.1]
 omega
theorem aea (g:j5 c (bp t)) (m:cH c) (hp:t.parts.length=nP c) (f:t.procs.length=nQ c):vd t:=by
 have j:=m.parts;have k:=m.procs;refine ⟨by omega,by omega,λx b=> ?_,λx b=> ?_⟩
 ·obtain ⟨i,a⟩:=List.mem_iff_getElem?.1 b;have h:=(List.getElem?_eq_some_iff.1 a).1;have e:(bp t).part i=x:=nD a;have sp:=g.part i (by omega);rw [e] at sp;have:=sp.kz;have:=sp.ij;have:=sp.jW.1;exact ⟨by omega,by omega,by omega,λq f=>by have:=sp.jW.2 q f;omega⟩
 ·obtain ⟨i,a⟩:=List.mem_iff_getElem?.1 b;have h:=(List.getElem?_eq_some_iff.1 a).1;have e:(bp t).proc i=x:=nD a;have sp:=g.proc i (by omega);rw [e] at sp;have:=sp.len;exact ⟨by omega,λl d=>⟨by have:=(sp.eJ l d).values;omega,by have:=(sp.eJ l d).waiters;omega⟩⟩
end
def Hi (a:MK) (n:Option Addr) (t2:fA) (b:Nat->Nat->Int):eh:=match n with
 | none=>.fact True
 | some p=>aK a p (bp t2) b
structure kq (h k:Hp) (c:aW) (t1 t2:fA) (pm:Addr) (n:Option Addr):Prop where
 ex:∃K tm K2 tm2,K.c=c/\dC h K/\dG c tm (bp t1)/\(n≠none->K2.c=c/\dC h K2/\dG c tm2 (bp t2))/\Has h ((aK K pm (bp t1) tm).star (Hi K2 n t2 tm2)) k
section
variable {h k:Hp} {c:aW} {t1 t2 t:fA} {pm a:Addr} {n:Option Addr}
theorem kq.le (q:kq h k c t1 t2 pm n):h<=k:=by obtain ⟨_,_,_,_,_,_,_,_,o⟩:=q.ex;exact o.le
theorem nO.pair (q:nO k c t pm h):∃b,k<=b/\kq b h c t t pm none:=by obtain ⟨K,d,b,e,mk,l,o,g⟩:=q.ex;exact ⟨b,l,⟨K,d,K,d,e,mk,g,λf=>absurd rfl f,o.beside (Has.fact trivial (Hp.le_refl _))⟩⟩
theorem kq.one (q:kq h k c t1 t2 pm n):∃K f b,K.c=c/\dC b K/\dG c f (bp t1)/\h<=b/\Has b (aK K pm (bp t1) f) k/\∀d g i,Has b (aK K pm d g) i->dG c g d->kq h i c (d.list c) t2 pm n:=by obtain ⟨K,f,l,v,e,mk,s,m,o⟩:=q.ex;obtain ⟨b,j,r,_,put⟩:=o.fst;refine ⟨K,f,b,e,mk.mono j,s,j,r,λd g i p u=>⟨K,g,l,v,e,mk,yM u,m,?_⟩⟩;rw [ye e];exact put _ _ p
theorem kq.two (q:kq h k c t1 t2 pm (some a)):∃K f b,K.c=c/\dC b K/\dG c f (bp t2)/\h<=b/\Has b (aK K a (bp t2) f) k/\∀d g j,Has b (aK K a d g) j->dG c g d->kq h j c t1 (d.list c) pm (some a):=by obtain ⟨K,f,l,y,e,mk,v,r,o⟩:=q.ex;obtain ⟨i,p,x⟩:=r (by simp);obtain ⟨b,m,u,_,put⟩:=o.snd;refine ⟨l,y,b,i,p.mono m,x,m,u,λd g j s w=>⟨K,f,l,g,e,mk,v,λ_=>⟨i,p,yM w⟩,?_⟩⟩;unfold Hi;dsimp only;rw [ye i];exact put _ _ s
theorem kq.base {P:Program} {g:FuncId} {args:List Value} {sh:Shape} {K0 K:sh.T->Hp->Prop} (q:kq h k c t1 t2 pm n) (r:aa P g args sh (λx b=>h<=b/\K0 x b) h) (s:∀x b d,h<=b->K0 x b->kq b d c t1 t2 pm n->K x d):aa P g args sh K k:=by obtain ⟨j,w,m,y,e,mk,v,f,o⟩:=q.ex;refine tW o r ?_;rintro x b d ⟨l,p⟩ u;exact s x b d l p ⟨j,w,m,y,e,mk.mono l,v,λi=>⟨(f i).1,(f i).2.1.mono l,(f i).2.2⟩,u⟩
theorem kq.grow {b:Hp} (q:kq h k c t1 t2 pm n) (l:k<=b):kq h b c t1 t2 pm n:=by obtain ⟨d,j,f,m,e,mk,i,g,o⟩:=q.ex;exact ⟨d,j,f,m,e,mk,i,g,o.grow l⟩
theorem kq.alone (q:kq h k c t1 t2 pm n):kq h k c t1 t1 pm none:=by obtain ⟨b,d,i,l,e,mk,g,j,o⟩:=q.ex;exact ⟨b,d,b,d,e,mk,g,λf=>absurd rfl f,(Has.left o).beside (Has.fact trivial (Hp.le_refl _))⟩
theorem Jf {s:MS} {p v:Int}:TW (rW c s p v).1=TW s:=by
 unfold rW;split
 ·rfl
 ·split
  ·exact rY rfl
  ·exact DW rfl
end
section
variable {h k:Hp} {c:aW} {t1 t2 t:fA} {pm a:Addr} {n:Option Addr}
def jl (c:aW) (t:fA):fA:=(jm c gx (iE c) (bp t)).list c
def nW (c:aW) (t:fA) (p v:Int):fA:=(rW c (bp t) p v).1.list c
def kP (c:aW) (t:fA) (p:Int):fA:=(iN c (bp t) p).1.list c
end
end Lf
