/-
  Part 6 of the texts that the claim leans on.
-/
import Derived.RangeFuncFrom
import Derived.RangeFuncBound
import Derived.RangeFuncCalls
import Derived.RangeFuncLeaves
import Derived.Shelf.Abstract
import Derived.Shelf.RegionOpen
import Derived.WalkKit
import Derived.OwnWalkIn
import Derived.TacticsInMore
import Derived.LoopNIn
import Derived.LoopIn
import Derived.Test.YtdcokeoodcfphaaGreatProg
import Derived.Test.YtdcokeoodcfphaaGreatMgGhEdges4
set_option maxRecDepth 100000
namespace Lf
open Go Go.Proofs Tryz
section
variable {h0 h1 k:Hp} {K:MK} {pm:Addr} {s:MS} {b:Nat->Nat->Int}
theorem Has.agree {a:Addr} {z c:aM} (f:Has h0 (dJ bz a c) k) (g:Has h1 (dJ bz a z) k):c.post=z.post:=by obtain ⟨h,d,rfl⟩:=f.ld (shf:=an) (off:=14) c.post rfl (K:=λy=>y=c.post) rfl;obtain ⟨i,e,rfl⟩:=g.ld (shf:=an) (off:=14) z.post rfl (K:=λy=>y=z.post) rfl;have d:=d 0 (.pointer c.post) rfl;have e:=e 0 (.pointer z.post) rfl;grind
theorem fH.same {p:Nat} {z d:aM} {a c:Addr} {y h:ai} (f:fH K p z a y) (g:fH K p d c h) (e:d.post=z.post):c=a:=by rw [f.2.2.2.2.2.2,g.2.2.2.2.2.2] at e;grind
theorem VF {c:bd} {p:Nat} {to v:Int}:my c (jO c) s p to v=if to<0\/(nQ c:Int)<=to then da c s p 1
 else if jO c (aH c p) (aH c to.toNat)=false then da c (s.eS (aH c p) {s.part (aH c p) with forbidden:=more (s.part (aH c p)).forbidden}) p 0
 else if aH c p=aH c to.toNat then Ff c s p to.toNat v
 else if kO (s.proc to.toNat)=false\/gB c (s.proc to.toNat) (aH c p) then da c (s.bw to.toNat (bY (s.proc to.toNat) (aH c p) mq)) p 0
 else da c (s.bw to.toNat (eT (bY (s.proc to.toNat) (aH c p) (vQ v)))) p 0:=rfl
theorem Tu {p:Nat} {to v:Int} {Q:Hp->Prop} (m:dD h0 K) (H:cP K.c) (o:Has h0 (aJ K pm s b) k) (t:jK K.c s) (hp:p<nQ K.c) (hn:∀q,q<nQ K.c->∀l∈(s.proc q).ae,∀z∈l.waiters,z.proc≠(p:Int))
  (a:∀r,Has h0 (aJ K pm (my K.c (jO K.c) s p to v) b) r->Q r):UG prog (some pm) (some (K.p p)) to v Q k:=by
 unfold UG;rw [VF] at a;have b0:=m.nS;have e0:(rG K.x s.tick).procs=K.x.procs:=rfl;refine aP (o.eO.mE (shf:=af) K.x.procs rfl ?_);refine aE ?_;rw [b0];by_cases h:to<0\/(nQ K.c:Int)<=to
 ·rw [if_pos (by simp;omega)];rw [if_pos h] at a;exact Cb (D8 m o hp (t.told hp) a)
 rw [if_neg (by simp;omega)];rw [if_neg h] at a;have g:to.toNat<nQ K.c:=by omega
 have X:((to.toNat:Nat):Int)=to:=by omega
 obtain ⟨L,M⟩:=m.ptr o g;rw [X] at L M;obtain ⟨h1,j,ap,l1,b1,op,b9⟩:=o.dz hp;obtain ⟨h2,f,R,l2,A,w,_⟩:=o.dz g;have hi:aH K.c p<nP K.c:=H.fo;have i:j.part=(aH K.c p:Int):=b1.2.1;have eq:f.part=(aH K.c to.toNat:Int):=A.2.1;have V:f.post=some R:=A.2.2.2.2.2.2;refine aP (o.eO.ld (shf:=af) K.x.procs rfl ⟨L,some (K.p to.toNat),M,?_⟩);refine aP (o.eO.ld (shf:=an) K.x.table rfl ?_);refine aP (op.ld (shf:=ab .i64) j.part rfl ?_);refine aP (w.ld (shf:=ab .i64) f.part rfl ?_);rw [m.t1,i,eq];refine zps (KH (m.t2.mono o.le) m.BD ?_);have T:fl K.c.labels (aH K.c p:Int) (aH K.c to.toNat:Int)=jO K.c (aH K.c p) (aH K.c to.toNat):=rfl;rw [T];by_cases F:jO K.c (aH K.c p) (aH K.c to.toNat)=false
 ·rw [if_pos (by rw [F];rfl)];rw [if_pos F] at a;obtain ⟨N,D⟩:=m.uz o hi;obtain ⟨h3,x,lp,wp,l3,u,P,b5⟩:=o.tL hi;refine aP (o.eO.ld (shf:=af) K.x.parts rfl ?_);refine aP (op.ld (shf:=ab .i64) j.part rfl ?_);rw [i];refine ⟨N,_,D,?_⟩;refine aP (o.eO.ld (shf:=af) K.x.parts rfl ?_);refine aP (op.ld (shf:=ab .i64) j.part rfl ?_);rw [i];refine ⟨N,_,D,?_⟩;refine aP (P.ld (shf:=ab .i64) x.forbidden rfl ?_);have ex:x.forbidden=(s.part (aH K.c p)).forbidden:=u.2.2.2.1;rw [ex];refine zwz (N3 (t.part _ hi).lM ?_);refine ⟨⟨o.eO.eM (n:=1) rfl,by rw [<-i];exact op.eM (n:=1) rfl,D,trivial⟩,?_⟩;refine aP (P.st (⟨x.procs,x.ag,x.log,x.lost,more (s.part (aH K.c p)).forbidden,x.ak,x.dU⟩:bm) (by show 4+1<=7;omega) rfl λk1 B=> ?_);have J:=b5 (⟨x.procs,x.ag,x.log,x.lost,more (s.part (aH K.c p)).forbidden,x.ak,x.dU⟩:bm) {s.part (aH K.c p) with forbidden:=more (s.part (aH K.c p)).forbidden} _ ⟨u.1,u.2.1,u.2.2.1,rfl,u.2.2.2.2⟩ rfl rfl rfl rfl B;exact Cb (D8 m J hp (t.told hp) a)
 rw [if_neg (by grind)];rw [if_neg F] at a;refine aP (op.ld (shf:=ab .i64) j.part rfl ?_);refine aP (w.ld (shf:=ab .i64) f.part rfl ?_);rw [i,eq];by_cases G:aH K.c p=aH K.c to.toNat
 ·rw [if_pos (by rw [G];simp)];rw [if_pos G] at a;exact ztz (Q0 m H o t hp g (hn _ g) a)
 rw [if_neg (by simp;omega)];rw [if_neg G] at a;have sq:=t.proc _ g;refine bM.intro (λr=>∃y:ai,y.pc=(s.proc to.toNat).pc/\Has h0 (aJ K pm (s.bw to.toNat y) b) r/\∀d,Has h0 (aJ K pm (da K.c (s.bw to.toNat y) p 0) b) d->Q d) ?_ ?_
 ·have drop:∀(O:kO (s.proc to.toNat)=false\/gB K.c (s.proc to.toNat) (aH K.c p)=true),
   aj none (some (K.p to.toNat)) λb3=>
   aD none an k (Addr.add b3 14) λb6=>
   aj none (some (K.p p)) λb4=>
   aD none (ab .i64) k (Addr.add b4 1) λb7=>
   bA prog J9 [(.pointer b6),(.int .i64 b7)] (λE=>∃y:ai,y.pc=(s.proc to.toNat).pc/\Has h0 (aJ K pm (s.bw to.toNat y) b) E/\∀d,Has h0 (aJ K pm (da K.c (s.bw to.toNat y) p 0) b) d->Q d) k:=by
   intro O;rw [if_pos O] at a;obtain ⟨z4,a4,b8,b2,S⟩:=N5 (C:=True) (Q:=λE=>∃y:ai,y.pc=(s.proc to.toNat).pc/\Has h0 (aJ K pm (s.bw to.toNat y) b) E/\∀d,Has h0 (aJ K pm (da K.c (s.bw to.toNat y) p 0) b) d->Q d) o g sq (Nat.le_of_lt hi) λr I=>⟨_,EK,I,a⟩;refine aP (b2 (aP (op.ld (shf:=ab .i64) j.part rfl ?_)));rw [i];exact zty S
  refine aP (w.ld (shf:=ab .i64) f.state rfl ?_);refine Fz (DX ?_);have W:f.state=(s.proc to.toNat).state:=A.2.2.2.1;have U:(decide (f.state≠5)&&decide (f.state≠6))=kO (s.proc to.toNat):=by rw [W];rfl
  rw [U];refine aP (w.mE (shf:=an) f.post rfl ?_);refine aP (op.mE (shf:=ab .i64) j.part rfl ?_);rw [i,V];by_cases hl:kO (s.proc to.toNat)=false
  ·rw [hl];refine ⟨λe=>(by cases e),λ_=>⟨0,aE ?_⟩⟩;grind
  ·have a9:kO (s.proc to.toNat)=true:=by grind
   rw [a9];refine ⟨λ_=> ?_,λe=>(by cases e)⟩;refine Yz (Fe o g sq H.lane.2 (Nat.le_of_lt hi) A w (λZ=>aE ?_) λr Z I=>aE ?_)
   ·grind
   ·rw [if_neg (by decide)];rw [if_neg (by grind)] at a;refine TJ (EJ I g λk1 B=> ?_);rw [fV,Ba] at B;exact ⟨_,by rw [N4,EK],B,a⟩
 ·rintro d ⟨y,Y,J,a8⟩;refine Cb (D8 m J hp ?_ a8);rw [AV Y];exact t.told hp
theorem MI {p:Int} {Q:Int->Hp->Prop} (m:dD h0 K) (o:Has h0 (aJ K pm s b) k) (a:Q (uW K.c s p) k):UA prog (some pm) p Q k:=by
 unfold UA;unfold uW at a;have l:=m.nS;refine aP (o.eO.mE (shf:=af) K.x.procs rfl ?_);refine aE ?_;rw [l];by_cases h:p<0\/(nQ K.c:Int)<=p
 ·rw [if_pos (by simp;omega)];rw [if_pos h] at a;exact a
 rw [if_neg (by simp;omega)];rw [if_neg h] at a;have g:p.toNat<nQ K.c:=by omega
 have j:((p.toNat:Nat):Int)=p:=by omega
 obtain ⟨e,f⟩:=m.ptr o g;rw [j] at e f;obtain ⟨u,d,r,v,n,q,_⟩:=o.dz g;refine aP (o.eO.ld (shf:=af) K.x.procs rfl ⟨e,some (K.p p.toNat),f,?_⟩);refine aP (q.ld (shf:=ab .i64) d.state rfl ?_);refine Fz (DX ?_);have i:d.state=(s.proc p.toNat).state:=n.2.2.2.1;have t:(decide (d.state≠5)&&decide (d.state≠6))=kO (s.proc p.toNat):=by rw [i];rfl
 grind
theorem Q1 {p v:Int} {Q:Int->Hp->Prop} (m:dD h0 K) (A:cP K.c) (o:Has h0 (aJ K pm s b) k) (D:jK K.c s) (a:∀e,Has h0 (aJ K pm (ve K.c s p v).1 b) e->Q (ve K.c s p v).2 e):OK prog (some pm) p v Q k:=by
 unfold OK;refine zlk (MI m o ?_);unfold ve at a;by_cases h:uW K.c s p≠0
 ·grind
 rw [if_neg (by simpa using h)];rw [if_neg h] at a;have G:0<=p/\p<(nQ K.c:Int):=by refine Classical.byContradiction λF=>h ?_;unfold uW;omega
 have d:p.toNat<nQ K.c:=by omega
 have w:((p.toNat:Nat):Int)=p:=by omega
 obtain ⟨g,i⟩:=m.ptr o d;rw [w] at g i;obtain ⟨E,q,r,I,j,n,_⟩:=o.dz d;have u:q.post=some r:=j.2.2.2.2.2.2;have sq:=D.proc _ d;refine aP (o.eO.ld (shf:=af) K.x.procs rfl ⟨g,some (K.p p.toNat),i,?_⟩);refine aP (o.eO.ld (shf:=af) K.x.parts rfl ?_);refine aP (n.ld (shf:=an) q.post rfl ?_);rw [u,m.rA];refine Yz (Fe o d sq A.lane.2 (Nat.le_refl _) j n (λf=> ?_) λe f B=> ?_)
 ·rw [if_pos (by decide)];rw [if_pos f] at a;obtain ⟨J,a4,H,z,t⟩:=N5 (C:=True) (Q:=λe=>Q 19 e) o d sq (Nat.le_refl _) a;exact aP (z (zty t))
 ·rw [if_neg (by decide)];rw [if_neg (by rw [f];decide)] at a;refine TJ (EJ B d λy l=> ?_);rw [fV,Ba] at l;exact a y l
end
def zv :Prop:=∀ {c k:Hp} {p:Addr} {room ag:Int} {a:List br} {Q:Int->Int->bp->Bool->Int->Hp->Prop},Has c (dT p room a ag) k->(a.length<=1000/\∀l∈a,fF l.taken/\l.values.length<=64)->(0<=ag/\ag<a.length)->
 (py ag a=none->∀b,Has c (dT p room a ag) b->Q 0 0 ⟨0,0⟩ false 21 b)->
 (∀(i:Nat) l v d,py ag a=some i->a[i]? =some l->l.values=v::d->∀b,Has c (dT p room (a.set i (dQ l)) (((i+1:Nat):Int)%(a.length:Int))) b->
  Q v (i:Int) (match l.waiters with | []=>⟨0,0⟩ | w::_=>nY w) (!l.waiters.isEmpty) 0 b)->
 Ax prog ZK [.pointer (some p)] (ab .i64) (ab .i64) aF aW (ab .i64) Q k
section
variable {h0 h1 k:Hp} {K:MK} {pm:Addr} {s:MS} {a:Nat->Nat->Int}
theorem VH {l:List dF} {k:Core} {v f:Int}:(gQ l k v f).pc=k.pc+1:=by unfold gQ;cases ik l k.pc<;>rfl
theorem wW {p:Nat} {c:bc} {Q:Hp->Prop} (o:Has h0 (aJ K pm s a) k) (hp:p<nQ K.c) (d:∀b,Has h0 (aJ K pm (s.bw p ((s.proc p).put (gI c))) a) b->Q b):
  cl k ((K.p p).add 4) [(.int .i64 c.PC),(.int .i64 c.cD),(.int .i64 c.cE),(.int .i64 c.cF),(.int .i64 c.cG),(.int .i64 c.cH),(.int .i64 c.cI),(.int .i64 c.cJ),(.int .i64 c.cK)] Q:=by
 obtain ⟨h1,z,q,i,e,f,put⟩:=o.dz hp;exact f.st (vG z c) (by show 4+9<=15;omega) rfl λh g=>d _ (put _ _ _ (e.core c) rfl rfl g)
theorem MJ {p:Nat} {G:Bool} {Q:Hp->Prop} (tk:zv) (m:dD h0 K) (mc:cP K.c) (o:Has h0 (aJ K pm s a) k) (t:jK K.c s) (hp:p<nQ K.c)
  (b:∀M,Has h0 (aJ K pm (lj K.c s p G) a) M->Q M):UI prog (some pm) (some (K.p p)) G Q k:=by
 unfold UI;obtain ⟨h1,z,q,l1,hz,oz,o1,put⟩:=o.nR hp;have sp:=t.proc p hp;have eq:z.post=some q:=hz.2.2.2.2.2.2;refine aP (oz.ld (shf:=an) z.post rfl ?_);rw [eq];have a9:=mc.parts;have a8:=sp.len;unfold lj at b;dsimp only at b;refine tk o1 ⟨by omega,λl r=>⟨(sp.dY l r).taken,(sp.dY l r).values⟩⟩ sp.cur (λX k1 E=> ?_) λi l v vs Y r hv k1 E=> ?_
 ·rw [if_neg (by decide)];rw [X] at b;dsimp only at b;have h:=put _ _ _ E;have n:s.bw p {s.proc p with ae:=(s.proc p).ae,ag:=(s.proc p).ag}=s:=MH;rw [n] at h;obtain ⟨W,d,q2,l2,f,j,F⟩:=h.dz hp;have T:d.bK=(s.proc p).bK:=f.2.2.2.2.2.1;refine aP (j.ld (shf:=aW) d.bK rfl ?_);rw [T];by_cases B:(s.proc p).bK=true
  ·rw [if_pos B];rw [if_pos B] at b;refine aP (j.st (uR d false) (by show 13+1<=15;omega) rfl λN A=> ?_);have P:=F _ _ _ (f.bK false) rfl rfl A;have e:gI (dW d)=(s.proc p).core:=f.2.2.2.2.1;have u:(dW d).PC=(s.proc p).pc:=congrArg Core.pc e;refine aP (A.ld (shf:=fh) (dW d) rfl ?_);refine aP (A.ld (shf:=af) d.code rfl ?_);refine zyv (EH (m.q7 P.le hp f) (by rw [u];exact t.told hp) λH O y n=> ?_);refine aP (wW (P.grow y) hp λC g=>b C ?_);rw [fV,Ba,n,e,(m.code p hp).2] at g;exact g
  ·rw [if_neg B];rw [if_neg B] at b;cases G with
   | true=>rw [if_pos rfl];rw [if_pos rfl] at b;have e:gI (dW d)=(s.proc p).core:=f.2.2.2.2.1;have u:(dW d).PC=(s.proc p).pc:=congrArg Core.pc e;refine aP (j.ld (shf:=fh) (dW d) rfl ?_);refine aP (j.ld (shf:=af) d.code rfl ?_);refine zyv (EH (m.q7 h.le hp f) (by rw [u];exact t.told hp) λH O y n=> ?_);refine aP (wW (h.grow y) hp λC g=>b C ?_);rw [n,e,(m.code p hp).2] at g;exact g
   | false=>rw [if_neg (by decide)];rw [if_neg (by decide)] at b;exact aP (j.st (og d 1) (by show 3+1<=15;omega) rfl λN A=>b N (F _ _ _ (f.state 1) rfl rfl A))
 ·rw [if_pos (by decide)];rw [Y] at b;dsimp only at b;have h:=put _ _ _ E;have R:(s.proc p).ae.getD i ⟨[],[],0,0⟩=l:=pD r;rw [R] at b;have S:({s.proc p with ae:=(s.proc p).ae.set i (dQ l),ag:=((i+1:Nat):Int)%((s.proc p).ae.length:Int)}:ai)={bY (s.proc p) i dQ with ag:=((i+1:Nat):Int)%((s.proc p).ae.length:Int)}:=by rw [yZ r]
  rw [S] at h;obtain ⟨W,d,q2,l2,f,j,F⟩:=h.dz hp;rw [fV] at f;have e:gI (dW d)=(s.proc p).core:=f.2.2.2.2.1;have u:(dW d).PC=(s.proc p).pc:=congrArg Core.pc e;refine aP (j.ld (shf:=fh) (dW d) rfl ?_);refine aP (j.ld (shf:=af) d.code rfl ?_);refine zyv (EH (m.q7 h.le hp f) (by rw [u];exact t.told hp) λH O y n=> ?_);refine aP (wW (h.grow y) hp λC g=> ?_);rw [fV,Ba,n,e,(m.code p hp).2] at g;have Z:l.values.headD 0=v:=by rw [hv];rfl
  rw [Z] at b;cases hw:l.waiters with
  | nil=>grind
  | cons w ws=>
   rw [if_pos (by simp)];rw [hw] at b;dsimp only at b;have b0:=(sp.dY l (List.mem_of_getElem? r)).kS w (by grind);have D:w.proc.toNat<nQ K.c:=by omega
   have V:((w.proc.toNat:Nat):Int)=w.proc:=by omega
   obtain ⟨I,J⟩:=m.ptr g D;rw [V] at I J;have U:(nY w).bT=w.proc:=rfl;rw [U];refine aP (g.eO.ld (shf:=af) K.x.procs rfl ⟨I,some (K.p w.proc.toNat),J,?_⟩);refine Cb (D8 m g D ?_ b);by_cases L:w.proc.toNat=p
   ·rw [L,fV];show 0<=(gQ _ _ _ _).pc/\(gQ _ _ _ _).pc<_;rw [VH];have:=(t.proc p hp).pc;show 0<=(s.proc p).pc+1/\(s.proc p).pc+1<_;omega
   ·rw [iN L];exact t.told D
end
section
variable {h0 h1 k:Hp} {K:MK} {pm:Addr} {s:MS} {g:Nat->Nat->Int}
theorem Has.aside {A:dR} {f:Type} {sz:Nat} {enc:f->List Value} {l:Sl} {e:List f} (o:Has h0 (A.star (dA sz enc l e)) k) (i:∀x,(enc x).length=sz):∃h1,h0<=h1/\Has h1 A k/\Rw h1 sz enc l e:=by obtain ⟨h1,a,b,⟨h,c,d⟩,_⟩:=o.fst;exact ⟨h1,a,b,Has.jW (h0:=h0) ⟨a,h,c,d⟩ i⟩
theorem DZ {i:Nat}:s.eS i (s.part i)=s:=by unfold MS.eS;rw [zN]
theorem Has.rp {i:Nat} (o:Has h0 (aJ K pm s g) k) (hi:i<nP K.c):∃h1 x lp d,h0<=h1/\mS K i x lp d (s.part i)/\Has h0 (dJ xI (K.q i) x) k/\Has h1 (nb lp (s.part i).av (s.part i).ah) k/\
  ∀os b a,Has h1 (nb lp os b) a->Has h0 (aJ K pm (s.eS i {s.part i with av:=os,ah:=b}) g) a:=by
 obtain ⟨h1,x,lp,d,f,e,h,put⟩:=o.ru hi;obtain ⟨w,m,r,u⟩:=h.f3;obtain ⟨j,n,t,_,v⟩:=r.fst;refine ⟨j,x,lp,d,Hp.le_trans f (Hp.le_trans m n),e,(Has.left h).mono f,t,λos b a p=> ?_⟩;have l:=put x {s.part i with av:=os,ah:=b} (g i) a e (u _ _ (v _ _ p))
 rwa [zN] at l
theorem Has.iV {i:Nat} (o:Has h0 (aJ K pm s g) k) (hi:i<nP K.c):∃h1 x lp a,h0<=h1/\mS K i x lp a (s.part i)/\Has h0 (dJ xI (K.q i) x) k/\Has h1 (s8 a (g i) (2*nQ K.c)) k/\
  ∀d b,Has h1 (s8 a d (2*nQ K.c)) b->Has h0 (aJ K pm s (dd g i d)) b:=by
 obtain ⟨h1,x,lp,a,f,e,h,put⟩:=o.ru hi;obtain ⟨w,m,r,u⟩:=h.f3;obtain ⟨j,n,t,_,v⟩:=r.snd;refine ⟨j,x,lp,a,Hp.le_trans f (Hp.le_trans m n),e,(Has.left h).mono f,t,λd b p=> ?_⟩;have l:=put x (s.part i) d b e (u _ _ (v _ _ p))
 rwa [DZ] at l
theorem Has.GA {i:Nat} (o:Has h0 (aJ K pm s g) k) (hi:i<nP K.c):∃h1 x lp a,h0<=h1/\mS K i x lp a (s.part i)/\Has h0 (dJ xI (K.q i) x) k/\Has h1 (dA 3 Gg x.log (s.part i).log) k/\Has h0 (pK K i x lp a (s.part i) (g i)) k/\
  True:=by
 obtain ⟨h1,x,lp,a,b,f,d,put⟩:=o.ru hi;obtain ⟨e,h,j,l⟩:=d.f2;exact ⟨e,x,lp,a,Hp.le_trans b h,f,(Has.left d).mono b,j,d.mono b,trivial⟩
theorem D0 :∀(l:List Int) (s:MS) (q:Nat),(s.proc q).pc<=((l.foldl jY s).proc q).pc/\((l.foldl jY s).proc q).pc<=(s.proc q).pc+l.length
 | [],s,q=>⟨Int.le_refl _,by simp⟩
 | a::l,s,q=>by
  have h:=D0 l (jY s a) q;have b:(s.proc q).pc<=((jY s a).proc q).pc/\((jY s a).proc q).pc<=(s.proc q).pc+1:=by
   unfold jY;split
   ·unfold pT;by_cases e:q=a.toNat
    ·subst e;rw [fV];show _<=(s.proc _).pc+1/\(s.proc _).pc+1<=_;omega
    ·rw [iN e];omega
   ·omega
  grind
theorem VJ {l:List dF} {k:Core} {v:Int}:(kI l k v).pc=k.pc+1:=by unfold kI;cases ik l k.pc<;>rfl
theorem N6 {c:bd} {v:Int}:∀(l:List ly) (s:MS) (q:Nat),(s.proc q).pc<=((l.foldl (λs w=>da c s w.proc.toNat v) s).proc q).pc/\((l.foldl (λs w=>da c s w.proc.toNat v) s).proc q).pc<=(s.proc q).pc+l.length
 | [],s,q=>⟨Int.le_refl _,by simp⟩
 | a::l,s,q=>by
  have h:=N6 (c:=c) (v:=v) l (da c s a.proc.toNat v) q;have b:(s.proc q).pc<=((da c s a.proc.toNat v).proc q).pc/\((da c s a.proc.toNat v).proc q).pc<=(s.proc q).pc+1:=by
   unfold da;by_cases e:q=a.proc.toNat
   ·subst e;rw [fV];show _<=(kI _ _ _).pc/\(kI _ _ _).pc<=_;rw [VJ];show _<=(s.proc _).pc+1/\(s.proc _).pc+1<=_;omega
   ·rw [iN e];omega
  grind
theorem N7 {p:Int}:∀ {os:List Int} {qs:List (List Int)},(∀a∈(jH p os qs).2.2,a= -1\/∃q∈qs,a∈q)/\(jH p os qs).2.2.length<=qs.length
 | [],qs=>by cases qs<;>simp [jH]
 | o::os,[]=>by simp [jH]
 | o::os,q::qs=>by
  obtain ⟨h1,h⟩:=N7 (p:=p) (os:=os) (qs:=qs);have d:∀a∈(jH p os qs).2.2,a= -1\/∃c∈q::qs,a∈c:=λa ha=>(h1 a ha).imp id λ⟨c,e,f⟩=>⟨c,List.mem_cons_of_mem _ e,f⟩;unfold jH;dsimp only;split
  ·cases q with
   | nil=>
    refine ⟨λa ha=> ?_,by simp;omega⟩;rcases List.mem_cons.1 ha with rfl | ha
    ·exact .inl rfl
    ·exact d a ha
   | cons b r=>
    refine ⟨λa ha=> ?_,by simp;omega⟩;rcases List.mem_cons.1 ha with rfl | ha
    ·exact .inr ⟨a::r,List.mem_cons_self ..,List.mem_cons_self ..⟩
    ·exact d a ha
  grind
theorem zzc {c:Type} {f:c->Bool}:∀ {l:List c} {a:c},a∈iD f l->a∈l
 | [],_,h=>by cases h
 | b::l,a,h=>by
  unfold iD at h;split at h
  ·grind
  ·rcases List.mem_cons.1 h with rfl | h
   ·simp
   ·exact List.mem_cons_of_mem _ (zzc h)
theorem aa3 {p:Int} {l:List Nat} {q:Nat} (h:q∉l):(mR p s l).bw q (sd p ((mR p s l).proc q))=mR p s (l++ [q]):=by unfold mR MS.bw;congr 1;funext r;unfold dd;grind
end
section
variable {h0 h1 k:Hp} {K:MK} {pm:Addr} {s:MS} {a:Nat->Nat->Int}
theorem zw {p:Nat} {Q:Int->Hp->Prop} (hp:p<=1000) (b:Q ((2*p:Nat):Int) k):Pb prog (p:Int) Q k:=by unfold Pb;rw [aI,show (2:Int)*(p:Int)=((2*p:Nat):Int) by omega];exact b
theorem zx {p:Nat} {Q:Int->Hp->Prop} (hp:p<=1000) (b:Q ((2*p+1:Nat):Int) k):Pc prog (p:Int) Q k:=by unfold Pc;rw [wrap64 (show -9223372036854775808<=(2:Int)*p by omega) (by omega),aI,show (2:Int)*(p:Int)+1=((2*p+1:Nat):Int) by omega];exact b
theorem Tv {gs:List cO} {sl:Sl} {Q:Hp->Prop} {rest:Hp->Prop} (m:dD h0 K) (o:Has h0 (aJ K pm s a) k) (r:Rw h0 2 eG sl gs) (z:gs.length<=1000) (y:∀g∈gs,0<=g.bT->g.bT<(nQ K.c:Int))
  (D:∀q,q<nQ K.c->0<=(s.proc q).pc/\(s.proc q).pc<=2000) (u:∀b,Has h0 (aJ K pm ((gs.map (·.bT)).foldl jY s) a) b->rest b):
  au (α1:=Int) (λj f i=>
 (if (decide (f<((sl.len:Nat):Int)))=true then
 ((aG sl.base sl.len f)/\aD none Ph i (sat sl.base 2 f) λx=>
 bA prog Ch [(.pointer (some pm)),(.int .i64 x.bT)] (λn=>
 j (yw (f+(1:Int))) n) i)
 else rest i)) (0:Int) k:=by
 have B:=r.1;refine au.intro (λ(t:Int) b=>0<=t/\t<=(gs.length:Int)/\Has h0 (aJ K pm (((gs.map (·.bT)).take t.toNat).foldl jY s) a) b) (λt _=>(gs.length-t).toNat) ⟨by omega,by omega,by simpa using o⟩ ?_;rintro t b ⟨w,t1,d⟩;by_cases h:t<(gs.length:Int)
 ·rw [if_pos (fT)];refine Rs.get (sh:=Ph) (Rw.mono d.le r) (λ_=>rfl) (by omega) w h λ(g:cO) p=> ?_;have C:=List.mem_of_getElem? p;have hb:=D0 ((gs.map (·.bT)).take t.toNat) s g.bT.toNat;have A:((gs.map (·.bT)).take t.toNat).length<=1000:=by grind
  refine Tq (DY m d (λh0=> ?_) λE v=> ?_)
  ·grind
  ·rw [aI];refine ⟨⟨by omega,by omega,?_⟩,by omega⟩;have e:(t+1).toNat=t.toNat+1:=by omega
   have l:(gs.map (·.bT))[t.toNat]? =some g.bT:=by grind
   rw [e,List.take_add_one,l];simpa using v
 ·rw [if_neg (λe=>h (by have:=of_decide_eq_true e;omega))];refine u b ?_;have e:t.toNat=gs.length:=by omega
  rw [e,List.take_of_length_le (by simp)] at d;exact d
theorem VL {b:List ly} {sl:Sl} {rest:Hp->Prop} (m:dD h0 K) (o:Has h0 (aJ K pm s a) k) (r:Rw h0 2 eW sl b) (P:b.length<=10000) (G:∀w∈b,0<=w.proc/\w.proc<(nQ K.c:Int))
  (T:∀q,q<nQ K.c->0<=(s.proc q).pc/\(s.proc q).pc<=4000) (H:∀d,Has h0 (aJ K pm (b.foldl (λs w=>da K.c s w.proc.toNat 2) s) a) d->rest d):
  au (α1:=Int) (λC l i=>
 (if (decide (l<((sl.len:Nat):Int)))=true then
 ((aG sl.base sl.len l)/\aD none aF i (sat sl.base 2 l) λB=>
 aj none (some pm) λJ=>
 aD none af i (Addr.add J 11) λn=>
 ((aG n.base n.len B.bT)/\aD none an i (sat n.base 1 B.bT) λN=>
 bA prog xG [(.pointer (some pm)),(.pointer N),(.int .i64 (2:Int))] (λF=>
 C (yw (l+(1:Int))) F) i))
 else rest i)) (0:Int) k:=by
 have L:Rs h0 aF 2 sl (b.map nY):=r.map (f:=nY) (enc:=λx=>ba (aF.enc x));have R:=r.1;refine au.intro (λ(t:Int) d=>0<=t/\t<=(b.length:Int)/\Has h0 (aJ K pm ((b.take t.toNat).foldl (λs w=>da K.c s w.proc.toNat 2) s) a) d) (λt _=>(b.length-t).toNat) ⟨by omega,by omega,by simpa using o⟩ ?_;rintro t d ⟨M,t1,j⟩;by_cases h:t<(b.length:Int)
 ·rw [if_pos (fT)];refine Rs.get (sh:=aF) (L.mono j.le) (λ_=>rfl) (by omega) M (by grind) λ(g:bp) O=> ?_;obtain ⟨w,z,rfl⟩:∃w,b[t.toNat]? =some w/\nY w=g:=by grind
  have S:=G w (List.mem_of_getElem? z);have hb:=N6 (c:=K.c) (v:=2) (b.take t.toNat) s w.proc.toNat;have Q:(b.take t.toNat).length<=10000:=by grind
  have A:w.proc.toNat<nQ K.c:=by omega
  have E:((w.proc.toNat:Nat):Int)=w.proc:=by omega
  obtain ⟨u,y⟩:=m.ptr j A;rw [E] at u y;have D:(nY w).bT=w.proc:=rfl;rw [D];refine aP (j.eO.ld (shf:=af) K.x.procs rfl ⟨u,some (K.p w.proc.toNat),y,?_⟩);refine Cb (D8 m j A ?_ λU I=> ?_)
  ·grind
  ·rw [aI];refine ⟨⟨by omega,by omega,?_⟩,by omega⟩;have e:(t+1).toNat=t.toNat+1:=by omega
   rw [e,List.take_add_one,z];simpa using I
 ·rw [if_neg (λe=>h (by have:=of_decide_eq_true e;omega))];refine H d ?_;have e:t.toNat=b.length:=by omega
  grind
end
section
variable {h0 h1 k:Hp} {K:MK} {pm:Addr} {s:MS} {d:Nat->Nat->Int}
theorem Tw {p i:Nat} {rest:Hp->Prop} (m:dD h0 K) (D:cP K.c) (o:Has h0 (aJ K pm s d) k) (sa:∀q,q<nQ K.c->qP K.c (s.proc q)) (hp:p<nQ K.c) (hi:i<nP K.c)
  (O:∀j,Has h0 (aJ K pm (mR p s (eC K.c i)) d) j->rest j):
  au (α1:=Int) (λH u f=>
 (if (decide (u<(((K.own i).len:Nat):Int)))=true then
 ((aG (K.own i).base (K.own i).len u)/\aD none (ab .i64) f (sat (K.own i).base 1 u) λF=>
 aj none (some pm) λY=>
 aD none af f (Addr.add Y 11) λy=>
 ((aG y.base y.len F)/\aD none an f (sat y.base 1 F) λx6=>
 aj none x6 λZ=>
 aD none an f (Addr.add Z 14) λx7=>
 aj none (some (K.p p)) λp8=>
 aD none (ab .i64) f (Addr.add p8 0) λx8=>
 aa prog Zm [(.pointer x7),(.int .i64 x8)] aW (λr M=>
 H (yw (u+(1:Int))) M) f))
 else rest f)) (0:Int) k:=by
 have r:=m.own i hi;have Q:=r.1;rw [List.length_map] at Q;have a8:(eC K.c i).length<=1000:=by have h1:(eC K.c i).length<=(List.range (nQ K.c)).length:=List.length_filter_le ..;rw [List.length_range] at h1;have:=D.procs;omega
 refine au.intro (λ(t:Int) j=>0<=t/\t<=((eC K.c i).length:Int)/\Has h0 (aJ K pm (mR p s ((eC K.c i).take t.toNat)) d) j) (λt _=>((eC K.c i).length-t).toNat) ⟨by omega,by omega,by
  have e:mR p s ((eC K.c i).take (0:Int).toNat)=s:=by unfold mR;simp
  rw [e];exact o⟩ ?_
 rintro t j ⟨t0,t1,n⟩;by_cases h:t<((eC K.c i).length:Int)
 ·rw [if_pos (fT)];refine Rs.get (sh:=ab .i64) (r.mono n.le) (λ_=>rfl) (by omega) t0 (by grind) λ(g:Int) a9=> ?_;obtain ⟨q,w,rfl⟩:∃q:Nat,(eC K.c i)[t.toNat]? =some q/\(q:Int)=g:=by grind
  have R:=List.mem_of_getElem? w;have v:=(gD.1 R).1;have C:q∉(eC K.c i).take t.toNat:=by
   intro b0;have b3:=Mi (c:=K.c) (i:=i);obtain ⟨b2,N⟩:=List.getElem?_eq_some_iff.1 w;have b5:(eC K.c i)=(eC K.c i).take t.toNat++q::(eC K.c i).drop (t.toNat+1):=by rw [<-N,List.getElem_cons_drop,List.take_append_drop]
   grind
  obtain ⟨J,L⟩:=m.ptr n v;refine aP (n.eO.ld (shf:=af) K.x.procs rfl ⟨J,some (K.p q),L,?_⟩);obtain ⟨h2,z,a,l2,S,X,E,put⟩:=n.nR v;have eq:z.post=some a:=S.2.2.2.2.2.2;refine aP (X.ld (shf:=an) z.post rfl ?_);obtain ⟨f,G,ap,l3,T,op,_⟩:=n.dz hp;refine aP (op.ld (shf:=ab .i64) G.dI rfl ?_);have I:G.dI=(p:Int):=T.1;rw [eq,I];have B:(mR p s ((eC K.c i).take t.toNat)).proc q=s.proc q:=if_neg C;rw [B] at E put;have sq:=sa q v;have b4:=D.parts;have b1:=sq.len;refine Rj (Tc E ⟨by omega,λl P=>(sq.dY l P).waiters⟩ λb U V=> ?_);have W:=put _ _ _ V;rw [aI];refine ⟨⟨by omega,by omega,?_⟩,by omega⟩;have e:(t+1).toNat=t.toNat+1:=by omega
  have A:=aa3 (p:=p) (s:=s) C;rw [B] at A;rw [e,List.take_add_one,w];show Has h0 (aJ K pm (mR p s ((eC K.c i).take t.toNat++ [q])) d) U;rw [<-A];exact W
 ·rw [if_neg (λe=>h (by have:=of_decide_eq_true e;omega))];refine O j ?_;have e:t.toNat=(eC K.c i).length:=by omega
  grind
theorem J8 {q:Nat}:∀ {l:List Int} {s:MS},((l.foldl jY s).proc q).ae=(s.proc q).ae
 | [],s=>rfl
 | a::l,s=>by
  rw [List.foldl_cons,J8];unfold jY;split
  ·unfold pT;by_cases e:q=a.toNat
   ·subst e;rw [fV];rfl
   ·rw [iN e]
  ·rfl
theorem JN {a:Type} {f:a->Bool}:∀ {l:List a},(iD f l).length<=l.length
 | []=>Nat.le_refl _
 | b::l=>by have:=JN (f:=f) (l:=l);unfold iD;grind
def rS (y:ai):ai:={y with timer:=0,cp:=0}
def uV (s:MS):MS:=⟨s.tick,s.part,λq=>rS (s.proc q)⟩
theorem FG :aJ K pm s d=aJ K pm (uV s) d:=rfl
theorem FI {p:Nat} {y:ai}:uV (s.bw p y)=(uV s).bw p (rS y):=by unfold uV MS.bw;dsimp only;rw [Uq]
theorem aa4 {c:bd} {p:Nat} {v:Int}:uV (da c s p v)=da c (uV s) p v:=by unfold da;rw [FI];rfl
theorem Cf {c:bd} {v:Int}:∀ {l:List ly} {s:MS},uV (l.foldl (λs w=>da c s w.proc.toNat v) s)=l.foldl (λs w=>da c s w.proc.toNat v) (uV s)
 | [],s=>rfl
 | a::l,s=>by rw [List.foldl_cons,Cf,aa4,List.foldl_cons]
theorem Tx {p:Nat} (o:Has h0 (aJ K pm (((s.proc p).ae.flatMap (·.waiters)).foldl (λs w=>da K.c s w.proc.toNat 2) (je s p)) d) k):Has h0 (aJ K pm (qW K.c (iv s p) p) d) k:=by
 have a:((iv s p).proc p).ae=(s.proc p).ae:=by unfold iv;rw [fV]
 have b:uV (je (iv s p) p)=uV (je s p):=by unfold je iv;rw [fV,Ba,FI,FI];rfl
 unfold qW;rw [a,FG,Cf,b,<-Cf,<-FG];exact o
def qX (d:Nat->Nat->Int) (i p:Nat):Nat->Nat->Int:=dd d i (dd (dd (d i) (2*p) 0) (2*p+1) 0)
theorem N8 {p:Nat} {st:Int} {Q:Hp->Prop} (m:dD h0 K) (v:cP K.c) (o:Has h0 (aJ K pm s d) k) (j:jK K.c s) (hp:p<nQ K.c)
  (L:∀r,Has h0 (aJ K pm (oY K.c s p st) (qX d (aH K.c p) p)) r->Q r):Vy prog (some pm) (some (K.p p)) st Q k:=by
 unfold Vy;rw [zS] at L;have hi:aH K.c p<nP K.c:=v.fo;have i2:=v.procs;have h4:=v.parts;obtain ⟨h1,z,a,l1,S,oz,put⟩:=o.dz hp;refine aP (o.eO.ld (shf:=af) K.x.parts rfl ?_);refine aP (oz.ld (shf:=ab .i64) z.part rfl ?_);have ep:z.part=(aH K.c p:Int):=S.2.1;rw [ep];obtain ⟨g1,g2⟩:=m.uz o hi;refine ⟨g1,some (K.q (aH K.c p)),g2,?_⟩;refine aP (oz.st (og z st) (by show 3+1<=15;omega) rfl λk1 o1=> ?_);refine aP (o1.st (uR (og z st) false) (by show 13+1<=15;omega) rfl λk2 o2=> ?_);have A:=put _ _ _ ((S.state st).bK false) rfl rfl o2;have A:Has h0 (aJ K pm (gm s p st) d) k2:=A;obtain ⟨h2,x,lp,wp,l2,hx,ox,_⟩:=A.tL hi;refine aP (ox.ld (shf:=af) x.procs rfl ?_);have ex:x.procs=K.own (aH K.c p):=hx.1;rw [ex];have b0:∀q,q<nQ K.c->qP K.c ((gm s p st).proc q):=λq f=>by
  unfold gm;by_cases e:q=p
  ·subst e;rw [fV];have:=j.proc q f;exact ⟨this.pc,this.len,this.cur,this.dY⟩
  ·rw [iN e];exact j.proc q f
 have c3:∀q,((ee K.c s p st).proc q).pc=(s.proc q).pc:=λq=>by
  have h1:((gm s p st).proc q).pc=(s.proc q).pc:=by
   unfold gm;by_cases e:q=p
   ·subst e;rw [fV]
   ·rw [iN e]
  show (if q∈eC K.c (aH K.c p) then sd p ((gm s p st).proc q) else (gm s p st).proc q).pc=_;split<;>exact h1
 refine Tw m v A b0 hp hi λk3 B=> ?_;have B:Has h0 (aJ K pm (ee K.c s p st) d) k3:=B;obtain ⟨H,x4,d6,j0,l4,c9,e7,ol,a9⟩:=B.rp hi;have el:x4.ak=some d6:=c9.2.2.2.2.1;obtain ⟨h5,z5,a5,l5,d4,f4,_⟩:=B.dz hp;refine aP (e7.ld (shf:=an) x4.ak rfl ?_);refine aP (f4.ld (shf:=ab .i64) z5.dI rfl ?_);have ei:z5.dI=(p:Int):=d4.1;rw [el,ei];have u:=j.part _ hi;have b9:(ee K.c s p st).part=s.part:=rfl;rw [b9] at ol a9;refine Rk (Vb ol ⟨by have:=u.iC.1;omega,u.iC.2⟩ u.im (by omega) λsl k4 gs c2 o5=> ?_);have o6:Has h0 ((aJ K pm (qn K.c (ee K.c s p st) p) d).star (dA 2 eG sl gs)) k4:=o5.carry λr E=>a9 _ _ r E;obtain ⟨I,V,o7,hr⟩:=o6.aside (λ_=>rfl);have W:=m.mono V;have J:=N7 (p:=(p:Int)) (os:=(s.part (aH K.c p)).av) (qs:=(s.part (aH K.c p)).ah.map (fc p));have g8:gs.length<=8:=by have:=J.2;rw [<-c2,List.length_map,List.length_map] at this;have:=u.iC.1;omega
 have c6:∀g∈gs,0<=g.bT->g.bT<(nQ K.c:Int):=by
  intro g hg h0;have:g.bT∈(jH (p:Int) (s.part (aH K.c p)).av ((s.part (aH K.c p)).ah.map (fc p))).2.2:=by grind
  rcases J.1 _ this with h | ⟨q,f,hm⟩
  ·omega
  ·obtain ⟨q',c4,rfl⟩:=List.mem_map.1 f;exact ((u.nd q' c4).2 _ (zzc hm)).2
 have R:∀q,((qn K.c (ee K.c s p st) p).proc q).pc=(s.proc q).pc:=c3;refine Tv (Q:=Q) W o7 hr (by omega) c6 (λq f=> ?_) λk5 F=> ?_
 ·rw [R];have:=(j.proc q f).pc;omega
 have G:(gs.map (·.bT)).foldl jY (qn K.c (ee K.c s p st) p)=jc K.c (ee K.c s p st) p:=by show _=(jH (p:Int) ((ee K.c s p st).part (aH K.c p)).av (((ee K.c s p st).part (aH K.c p)).ah.map (fc p))).2.2.foldl jY _;grind
 rw [G] at F;have i1:∀q,q<nQ K.c->0<=((jc K.c (ee K.c s p st) p).proc q).pc/\((jc K.c (ee K.c s p st) p).proc q).pc<=2000:=λq f=>by have:=D0 (gs.map (·.bT)) (qn K.c (ee K.c s p st) p) q;rw [G,R,List.length_map] at this;have:=(j.proc q f).pc;omega
 have P:∀q,((jc K.c (ee K.c s p st) p).proc q).ae=((ee K.c s p st).proc q).ae:=λq=>by unfold jc;rw [J8];rfl
 generalize i3:jc K.c (ee K.c s p st) p=b at*;obtain ⟨h7,x7,i6,f9,l7,d0,Y,ow,f7⟩:=F.iV hi;have c0:x7.dU=some f9:=d0.2.2.2.2.2;obtain ⟨h8,z8,a8,l8,d5,f5,_⟩:=F.dz hp;refine aP (Y.ld (shf:=an) x7.dU rfl ?_);refine aP (f5.ld (shf:=ab .i64) z8.dI rfl ?_);have b7:z8.dI=(p:Int):=d5.1;rw [b7];refine JU (zw (by omega) ?_);refine ⟨⟨Y.eM (n:=1) rfl,trivial⟩,?_⟩;rw [c0];refine Jn (Dj ow (by omega) λb1 k6 o9=> ?_);have X:=f7 _ _ o9;obtain ⟨h9,x9,i7,g0,l9,d1,Z,e5,f8⟩:=X.iV hi;have c1:x9.dU=some g0:=d1.2.2.2.2.2;obtain ⟨g4,b3,g3,i4,d2,e9,_⟩:=X.dz hp;refine aP (Z.ld (shf:=an) x9.dU rfl ?_);refine aP (e9.ld (shf:=ab .i64) b3.dI rfl ?_);have b6:b3.dI=(p:Int):=d2.1;rw [b6];refine JV (zx (by omega) ?_);refine ⟨⟨Z.eM (n:=1) rfl,trivial⟩,?_⟩;rw [c1];refine Jn (Dj e5 (by omega) λb2 k7 d7=> ?_);have y:=f8 _ _ d7;rw [lS,M6] at y;have y:Has I (aJ K pm b (qX d (aH K.c p) p)) k7:=y;obtain ⟨g5,b4,b5,i5,d3,f0,e4,f6⟩:=y.nR hp;have b8:b4.post=some b5:=d3.2.2.2.2.2.2;refine aP (f0.ld (shf:=an) b4.post rfl ?_);rw [b8];have i9:=b0 p hp;have O:∀l∈(b.proc p).ae,∃t∈(s.proc p).ae,l.waiters.length<=t.waiters.length/\∀w∈l.waiters,w∈t.waiters:=by
  intro l i;rw [P] at i;have C:((gm s p st).proc p).ae=(s.proc p).ae:=by unfold gm;rw [fV]
  have M:l∈(if p∈eC K.c (aH K.c p) then sd p ((gm s p st).proc p) else (gm s p st).proc p).ae:=i;rw [if_pos (gD.2 ⟨hp,rfl⟩)] at M;obtain ⟨l0,N,rfl⟩:=List.mem_map.1 M;rw [C] at N;exact ⟨l0,N,JN,λw D=>zzc D⟩
 have g9:(b.proc p).ae.length=nP K.c+1:=by
  rw [P];have C:((gm s p st).proc p).ae=(s.proc p).ae:=by unfold gm;rw [fV]
  show (if p∈eC K.c (aH K.c p) then sd p ((gm s p st).proc p) else (gm s p st).proc p).ae.length=_;rw [if_pos (gD.2 ⟨hp,rfl⟩)];show (List.map _ _).length=_;rw [List.length_map,C];exact (j.proc p hp).len
 have c7:∀l∈(b.proc p).ae,l.waiters.length<=100:=λl i=>by obtain ⟨t,h1,h2,_⟩:=O l i;have:=((j.proc p hp).dY t h1).waiters;omega
 refine SN (XN e4 ⟨by omega,c7⟩ λsw k8 d8=> ?_);have d9:Has I ((aJ K pm (je b p) (qX d (aH K.c p) p)).star (dA 2 eW sw ((b.proc p).ae.flatMap (·.waiters)))) k8:=d8.carry λr E=>f6 _ _ r E;obtain ⟨g6,U,e0,c5⟩:=d9.aside (λ_=>rfl);have g7:((b.proc p).ae.flatMap (·.waiters)).length<=900:=by
  have key:∀(m:List br),(∀l∈m,l.waiters.length<=100)->(m.flatMap (·.waiters)).length<=m.length*100:=λm=>by
   induction m with
   | nil=>intro _;simp
   | cons a m ih=>intro h;have:=ih λl i=>h l (List.mem_cons_of_mem _ i);have:=h a (List.mem_cons_self ..);simp only [List.flatMap_cons,List.length_append,List.length_cons];omega
  grind
 refine VL (W.mono U) e0 c5 (by omega) (λw D=> ?_) (λq f=> ?_) λT e2=>L T ?_
 ·obtain ⟨l,i,c8⟩:=List.mem_flatMap.1 D;obtain ⟨t,h1,_,H⟩:=O l i;exact ((j.proc p hp).dY t h1).kS w (H w c8)
 ·have e6:((je b p).proc q).pc=(b.proc q).pc:=by
   unfold je;by_cases e:q=p
   ·subst e;rw [fV]
   ·rw [iN e]
  grind
 · -- timers are in the dU alone
  have e3:Has h0 (aJ K pm (((b.proc p).ae.flatMap (·.waiters)).foldl (λs w=>da K.c s w.proc.toNat 2) (je b p)) (qX d (aH K.c p) p)) T:=e2.mono (Hp.le_trans V U);exact Tx e3
end
theorem Q2 {b:Type} {l:List b} {n:Nat} {f:b->b} {a:b} (h:l[n]? =some a):l.modify n f=l.set n (f a):=by refine List.ext_getElem? λj=> ?_;grind
theorem JW {a b:Int}:fK a b=qv a b:=by unfold fK qv;omega
theorem X4 {a b:Int}:pV a b=vX a b:=by unfold pV vX;omega
section
variable {h0 h1 k:Hp} {K:MK} {pm:Addr} {s:MS} {d:Nat->Nat->Int}
def wz (d:Nat->Nat->Int) (i p:Nat) (t v:Int):Nat->Nat->Int:=dd d i (dd (d i) (2*p) (if 0<v then t+qv v 1099511627776 else 0))
theorem Tz {p:Nat} {v:Int} {Q:Hp->Prop} (m:dD h0 K) (u:cP K.c) (o:Has h0 (aJ K pm s d) k) (hp:p<nQ K.c) (ht:0<=s.tick/\s.tick<=4611686018427387904)
  (j:∀t,Has h0 (aJ K pm (s.bw p {s.proc p with bK:=false}) (wz d (aH K.c p) p s.tick v)) t->Q t):
 aj none (some (K.p p)) λp8=>
 cl k (Addr.add p8 13) [(.bool false)] (λi=>
 aj none (some (K.q (aH K.c p))) λD=>
 aD none an i (Addr.add D 6) λe=>
 aj none (some (K.p p)) λY=>
 aD none (ab .i64) i (Addr.add Y 0) λx8=>
 aa prog xJ [(.int .i64 x8)] (ab .i64) (λr2 l=>
 (((aR l (Addr.add D 6) [(.pointer e)])/\True)/\aa prog Co [(.pointer e),(.int .i64 r2)] aW (λr3 b=>
 (if (decide (v>(0:Int)))=true then
 aj none (some (K.q (aH K.c p))) λB=>
 aD none an b (Addr.add B 6) λf=>
 aj none (some (K.p p)) λZ=>
 aD none (ab .i64) b (Addr.add Z 0) λb3=>
 aj none (some pm) λC=>
 aD none (ab .i64) b (Addr.add C 9) λE=>
 aa prog xJ [(.int .i64 b3)] (ab .i64) (λr4 g=>
 (((aR g (Addr.add B 6) [(.pointer f)])/\((aR g (Addr.add C 9) [(.int .i64 E)])/\(True/\True)))/\aa prog xH [(.pointer f),(.int .i64 r4),(.int .i64 (yw (E+(fK v (1099511627776:Int)))))] (ab .i64) (λr5 L=>
 Q L) g)) b
 else
 Q b)) l)) i):=by
 have hi:aH K.c p<nP K.c:=u.fo;have b7:=u.procs;obtain ⟨h1,z,a,l1,r,W,put⟩:=o.dz hp;refine aP (W.st (uR z false) (by show 13+1<=15;omega) rfl λk2 x=> ?_);have S:=put _ _ _ (r.bK false) rfl rfl x;obtain ⟨g,e,b9,b0,l7,M,y,U,a8⟩:=S.iV hi;have I:e.dU=some b0:=M.2.2.2.2.2;refine aP (y.ld (shf:=an) e.dU rfl ?_);refine aP (x.ld (shf:=ab .i64) z.dI rfl ?_);have H:z.dI=(p:Int):=r.1;rw [H];refine JU (zw (by omega) ?_);refine ⟨⟨y.eM (n:=1) rfl,trivial⟩,?_⟩;rw [I];refine Jn (Dj U (by omega) λb1 k6 T=> ?_);have h:=a8 _ _ T;unfold wz at j;by_cases hv:0<v
 ·rw [if_pos (decide_eq_true hv)];rw [if_pos hv] at j;obtain ⟨h9,f,c0,b2,l9,N,A,V,a9⟩:=h.iV hi;have J:f.dU=some b2:=N.2.2.2.2.2;obtain ⟨b5,F,b4,b8,O,X,_⟩:=h.dz hp;refine aP (A.ld (shf:=an) f.dU rfl ?_);refine aP (X.ld (shf:=ab .i64) F.dI rfl ?_);have G:F.dI=(p:Int):=O.1;rw [G];refine aP (h.eO.ld (shf:=ab .i64) s.tick rfl ?_);refine JU (zw (by omega) ?_);refine ⟨⟨A.eM (n:=1) rfl,h.eO.eM (n:=1) rfl,trivial,trivial⟩,?_⟩;have b6:0<qv v 1099511627776/\qv v 1099511627776<=1099511627776:=by unfold qv;split<;>omega
  rw [J,JW,aI];refine WU (EG V (by omega) (by omega) (by omega) λP R=>j P ?_);have w:=a9 _ _ R;rw [lS,M6,M6] at w;exact w
 grind
theorem TA {p:Nat} {v:Int} {Q:Hp->Prop} (m:dD h0 K) (g:cP K.c) (o:Has h0 (aJ K pm s d) k) (hp:p<nQ K.c) (W:0<=s.tick/\s.tick<=4611686018427387904)
  (y:∀f,Has h0 (aJ K pm (s.bw p {s.proc p with state:=4}) (dd d (aH K.c p) (dd (d (aH K.c p)) (2*p+1) (s.tick+qv (vX v 1) 1099511627776)))) f->Q f):
 aj none (some (K.q (aH K.c p))) λj=>
 aD none an k (Addr.add j 6) λl=>
 aj none (some (K.p p)) λM=>
 aD none (ab .i64) k (Addr.add M 0) λP=>
 aj none (some pm) λi=>
 aD none (ab .i64) k (Addr.add i 9) λb=>
 aa prog yO [(.int .i64 P)] (ab .i64) (λr2 e=>
 (((aR e (Addr.add j 6) [(.pointer l)])/\((aR e (Addr.add i 9) [(.int .i64 b)])/\(True/\True)))/\aa prog xH [(.pointer l),(.int .i64 r2),(.int .i64 (yw (b+(fK (pV v (1:Int)) (1099511627776:Int)))))] (ab .i64) (λr3 w=>
 aj none (some (K.p p)) λL=>
 cl w (Addr.add L 3) [(.int .i64 (4:Int))] (λx=>
 Q x)) e)) k:=by
 have hi:aH K.c p<nP K.c:=g.fo;have V:=g.procs;obtain ⟨T,b,a8,O,l9,A,h,H,N⟩:=o.iV hi;have u:b.dU=some O:=A.2.2.2.2.2;obtain ⟨S,r,R,Z,C,J,_⟩:=o.dz hp;refine aP (h.ld (shf:=an) b.dU rfl ?_);refine aP (J.ld (shf:=ab .i64) r.dI rfl ?_);have t:r.dI=(p:Int):=C.1;rw [t];refine aP (o.eO.ld (shf:=ab .i64) s.tick rfl ?_);refine JV (zx (by omega) ?_);refine ⟨⟨h.eM (n:=1) rfl,o.eO.eM (n:=1) rfl,trivial,trivial⟩,?_⟩;have U:0<qv (vX v 1) 1099511627776/\qv (vX v 1) 1099511627776<=1099511627776:=by unfold qv vX;omega
 rw [u,JW,X4,aI];refine WU (EG H (by omega) (by omega) (by omega) λX E=> ?_);have F:=N _ _ E;obtain ⟨h1,z,a,Y,B,I,put⟩:=F.dz hp;exact aP (I.st (og z 4) (by show 3+1<=15;omega) rfl λD G=>y D (put _ _ _ (B.state 4) rfl rfl G))
theorem VN {p:Nat} {n:Int} {Q:Hp->Prop} (m:dD h0 K) (Z:cP K.c) (o:Has h0 (aJ K pm s d) k) (G:jK K.c s) (hp:p<nQ K.c) (hn:0<=n/\n<K.c.ak) (R:∀q∈(s.part (aH K.c p)).ah,(p:Int)∉q)
  (h:∀D,Has h0 (aJ K pm (kE K.c s p n) d) D->Q D):
 aj none (some (K.q (aH K.c p))) λp8=>
 aD none an k (Addr.add p8 5) λx7=>
 aj none (some (K.p p)) λp9=>
 aD none (ab .i64) k (Addr.add p9 0) λx8=>
 bu prog O0 [(.pointer x7),(.int .i64 n),(.int .i64 x8)] aW (ab .i64) (λr2 r3 g=>
 (if r2=true then
 aj none (some (K.p p)) λi=>
 aD none fh g (Addr.add i 4) λC=>
 aa prog xL [C.v] fh (λb f=>
 aj none (some (K.p p)) λB=>
 cl f (Addr.add B 4) [(.int .i64 b.PC),(.int .i64 b.cD),(.int .i64 b.cE),(.int .i64 b.cF),(.int .i64 b.cG),(.int .i64 b.cH),(.int .i64 b.cI),(.int .i64 b.cJ),(.int .i64 b.cK)] (λr=>
 Q r)) g
 else
 aj none (some (K.p p)) λi=>
 cl g (Addr.add i 3) [(.int .i64 (3:Int))] (λf=>
 Q f))) k:=by
 have hi:aH K.c p<nP K.c:=Z.fo;have l:=G.part _ hi;have b3:=l.iP;have b2:=l.im;obtain ⟨h3,H,Y,b5,l4,S,a8,ol,F⟩:=o.rp hi;have M:H.ak=some Y:=S.2.2.2.2.1;obtain ⟨b1,I,b0,b4,T,a9,_⟩:=o.dz hp;refine aP (a8.ld (shf:=an) H.ak rfl ?_);refine aP (a9.ld (shf:=ab .i64) I.dI rfl ?_);have L:I.dI=(p:Int):=T.1;rw [M,L];have P:n.toNat<(s.part (aH K.c p)).ah.length:=by omega
 have N:((n.toNat:Nat):Int)=n:=by omega
 have u:=List.getElem?_eq_getElem P;have t:=List.getElem?_eq_getElem (show n.toNat<(s.part (aH K.c p)).av.length by omega);generalize (s.part (aH K.c p)).ah[n.toNat]=q at u;generalize (s.part (aH K.c p)).av[n.toNat]=ow at t;unfold kE at h;dsimp only at h;rw [pD t,Q2 u] at h;have key:=Th (n:=n.toNat) (w:=(p:Int)) (Q:=λr2 (r3:Int) g=>(if r2=true then
 aj none (some (K.p p)) λi=>
 aD none fh g (Addr.add i 4) λC=>
 aa prog xL [C.v] fh (λb f=>
 aj none (some (K.p p)) λB=>
 cl f (Addr.add B 4) [(.int .i64 b.PC),(.int .i64 b.cD),(.int .i64 b.cE),(.int .i64 b.cF),(.int .i64 b.cG),(.int .i64 b.cH),(.int .i64 b.cI),(.int .i64 b.cJ),(.int .i64 b.cK)] (λr=>
 Q r)) g
 else
 aj none (some (K.p p)) λi=>
 cl g (Addr.add i 3) [(.int .i64 (3:Int))] (λf=>
 Q f))) ol ⟨by have:=l.iC.1;omega,l.iC.2⟩ R (by omega) t u (λf U y=> ?_) λf U y=> ?_
 ·rw [N] at key;exact QF key
 ·dsimp only;rw [if_pos rfl];rw [if_pos f] at h;have j:=F _ _ _ y;obtain ⟨h1,z,a,X,x,A,put⟩:=j.dz hp;have e:gI (dW z)=(s.proc p).core:=x.2.2.2.2.1;have O:(dW z).PC=(s.proc p).pc:=congrArg Core.pc e;refine aP (A.ld (shf:=fh) (dW z) rfl ?_);refine Dq (Fp (by rw [O];exact G.told hp) λc' J=> ?_);refine aP (wW j hp λW E=>h W ?_);rw [J,e] at E;exact E
 ·dsimp only;rw [if_neg (by decide)];rw [if_neg f] at h;have j:=F _ _ _ y;obtain ⟨h1,z,a,X,x,A,put⟩:=j.dz hp;exact aP (A.st (og z 3) (by show 3+1<=15;omega) rfl λV o4=>h V (put _ _ _ (x.state 3) rfl rfl o4))
theorem N9 {w:Int}:∀ {os:List Int} {i j:Nat},os[j]? =some w->((i+j:Nat):Int)∈hold w os i
 | [],_,j,h=>by simp at h
 | o::r,i,0,h=>by unfold hold;grind
 | o::r,i,j+1,h=>by have a:=N9 (i:=i+1) (j:=j) (os:=r) (w:=w) (by simpa using h);rw [show i+1+j=i+(j+1) by omega] at a;unfold hold;grind
theorem Q3 {p:Nat} {n:Int} {Q:Hp->Prop} (m:dD h0 K) (mc:cP K.c) (o:Has h0 (aJ K pm s d) k) (N:jK K.c s) (hp:p<nQ K.c) (hn:0<=n/\n<K.c.ak)
  (f:∀y,Has h0 (aJ K pm (Ap K.c s p n) d) y->Q y):
 aj none (some (K.q (aH K.c p))) λp8=>
 aD none an k (Addr.add p8 5) λx7=>
 aj none (some (K.p p)) λp9=>
 aD none (ab .i64) k (Addr.add p9 0) λx8=>
 aa prog OV [(.pointer x7),(.int .i64 x8)] af (λr2 D=>
 ((True/\True)/\aa prog OH [r2.v,(.int .i64 n)] aW (λr3 b=>
 (if r3=true then
 aj none (some (K.q (aH K.c p))) λc0=>
 aD none an b (Addr.add c0 5) λx9=>
 aj none (some (K.p p)) λc1=>
 aD none (ab .i64) b (Addr.add c1 0) λc3=>
 bu prog JR [(.pointer x9),(.int .i64 n),(.int .i64 c3)] (ab .i64) (ab .i64) (λH r5 g=>
 bA prog Ch [(.pointer (some pm)),(.int .i64 H)] (λE=>
 Q E) g) b
 else
 Q b)) D)) k:=by
 have hi:aH K.c p<nP K.c:=mc.fo;have C:=N.part _ hi;have d1:=C.iP;have d0:=C.im;have c9:=C.iC.1;obtain ⟨h3,P,b4,d6,l4,b0,b7,ol,c2⟩:=o.rp hi;have V:P.ak=some b4:=b0.2.2.2.2.1;obtain ⟨c6,R,c4,d2,b1,b8,_⟩:=o.dz hp;refine aP (b7.ld (shf:=an) P.ak rfl ?_);refine aP (b8.ld (shf:=ab .i64) R.dI rfl ?_);have T:R.dI=(p:Int):=b1.1;rw [V,T];have a8:n.toNat<(s.part (aH K.c p)).ah.length:=by omega
 have X:((n.toNat:Nat):Int)=n:=by omega
 have x:=List.getElem?_eq_getElem a8;have u:=List.getElem?_eq_getElem (show n.toNat<(s.part (aH K.c p)).av.length by omega);generalize (s.part (aH K.c p)).ah[n.toNat]=q at x;generalize (s.part (aH K.c p)).av[n.toNat]=L at u;unfold Ap at f;dsimp only at f;rw [pD u,pD x] at f;refine zpr (MG ol (by omega) (by omega) λsl F l=> ?_);have o3:Has h0 ((aJ K pm s d).star (dA 1 fC sl (hold (p:Int) (s.part (aH K.c p)).av 0))) F:=l.carry λy o'=>by
  have D:=c2 _ _ y o';have e:s.eS (aH K.c p) {s.part (aH K.c p) with av:=(s.part (aH K.c p)).av,ah:=(s.part (aH K.c p)).ah}=s:=DZ
  rwa [e] at D
 obtain ⟨g,A,B,hr⟩:=o3.aside (λ_=>rfl);refine ⟨⟨trivial,trivial⟩,?_⟩;have Z:(hold (p:Int) (s.part (aH K.c p)).av 0).length<=1000000:=by
  have:∀(os:List Int) (i:Nat),(hold (p:Int) os i).length<=os.length:=by
   intro os
   induction os with
   | nil=>intro i;exact Nat.le_refl _
   | cons a r ih=>intro i;have:=ih (i+1);unfold hold;split<;>simp<;>omega
  grind
 refine zjy (J6 (Rw.mono B.le hr) Z ?_);have I:n∈hold (p:Int) (s.part (aH K.c p)).av 0↔L=(p:Int):=by
  constructor
  ·intro h;obtain ⟨j,e1,e2⟩:=uH h;grind
  ·intro h;subst h;have:=N9 (i:=0) u;grind
 by_cases h:L=(p:Int)
 ·rw [if_pos (decide_eq_true (I.2 h))];rw [if_pos h] at f;subst h;have J:=m.mono A;obtain ⟨c7,O,b3,d5,d3,a9,b6,b5,M⟩:=B.rp hi;have W:O.ak=some b3:=a9.2.2.2.2.1;obtain ⟨c8,S,c5,d4,b2,b9,_⟩:=B.dz hp;refine aP (b6.ld (shf:=an) O.ak rfl ?_);refine aP (b9.ld (shf:=ab .i64) S.dI rfl ?_);have U:S.dI=(p:Int):=b2.1;rw [W,U];have key:=NZ (n:=n.toNat) (w:=(p:Int)) (Q:=λH (r5:Int) g=>bA prog Ch [(.pointer (some pm)),(.int .i64 H)] (λE=>Q E) g) b5 (by omega) u x (λb F l=> ?_) λa r b F l=> ?_
  ·rw [X] at key;exact zrg key
  ·subst b;have G:=M _ _ _ l;refine Tq (DY J G (λh=>absurd h (by decide)) λz t=> ?_);have t:Has g (aJ K pm (s.eS (aH K.c p) {s.part (aH K.c p) with av:=(s.part (aH K.c p)).av.set n.toNat (-1),ah:=(s.part (aH K.c p)).ah}) d) z:=t;exact f z (t.mono A)
  ·subst b;have G:=M _ _ _ l;have Y:0<=a/\a<(nQ K.c:Int):=(C.nd _ (List.mem_of_getElem? x)).2 a (List.mem_cons_self ..);refine Tq (DY J G (λh=>⟨Y.2,?_⟩) λz t=>f z (t.mono A));exact N.told (by omega)
 ·rw [if_neg (λe=>h (I.1 (of_decide_eq_true e)))];rw [if_neg h] at f;exact f _ (B.mono A)
theorem X5 {p:Nat} {v:Int} {Q:Hp->Prop} (m:dD h0 K) (R:cP K.c) (o:Has h0 (aJ K pm s d) k) (sa:jK K.c s) (hp:p<nQ K.c)
  (f:∀I,Has h0 (aJ K pm (uy K.c s p v) d) I->Q I):
 aj none (some (K.q (aH K.c p))) λX=>
 aD none af k (Addr.add X 2) λx7=>
 aj none (some pm) λY=>
 aD none (ab .i64) k (Addr.add (Addr.add Y 0) 5) λx8=>
 (if (decide (((x7.len:Nat):Int)<x8))=true then
 aj none (some (K.q (aH K.c p))) λy=>
 aD none af k (Addr.add y 2) λA=>
 aj none (some pm) λF=>
 aD none (ab .i64) k (Addr.add F 9) λa8=>
 aj none (some (K.p p)) λW=>
 aD none (ab .i64) k (Addr.add W 0) λa9=>
 bG [(.int .i64 a8),(.int .i64 a9),(.int .i64 v)] (λa r=>
 (((aR r (Addr.add y 2) [A.v])/\True)/\gv 3 24 [(.int .i64 (0:Int)),(.int .i64 (0:Int)),(.int .i64 (0:Int))] A ⟨(some a),1,1⟩ (λr2 g=>
 aj none (some (K.q (aH K.c p))) λG=>
 cl g (Addr.add G 2) [r2.v] (λi=>
 Q i)) r)) k
 else
 aj none (some (K.q (aH K.c p))) λy=>
 aD none (ab .i64) k (Addr.add y 3) λA=>
 aa prog Pk [(.int .i64 A)] (ab .i64) (λr2 r=>
 aj none (some (K.q (aH K.c p))) λF=>
 cl r (Addr.add F 3) [(.int .i64 r2)] (λg=>
 Q g)) k):=by
 have hi:aH K.c p<nP K.c:=R.fo;have L:=sa.part _ hi;have b0:=L.kg;obtain ⟨h1,x,lp,wp,l1,j,u,put⟩:=o.ru hi;have w:=Has.left u;refine aP (w.ld (shf:=af) x.log rfl ?_);have B:(Ge K.x).Log=K.c.log:=m.cfg.log;have B:K.x.iI=K.c.log:=B;refine aP ?_;rw [rY];refine o.eO.ld (shf:=ab .i64) K.x.iI rfl ?_;have N:=u.right.left.iy;unfold uy at f;dsimp only at f;rw [B,N];by_cases h:((s.part (aH K.c p)).log.length:Int)<K.c.log
 ·rw [if_pos (decide_eq_true h)];rw [if_pos h] at f;obtain ⟨h2,z,a,l2,O,V,_⟩:=o.dz hp;refine aP (w.ld (shf:=af) x.log rfl ?_);refine aP (o.eO.ld (shf:=ab .i64) s.tick rfl ?_);refine aP (V.ld (shf:=ab .i64) z.dI rfl ?_);have M:z.dI=(p:Int):=O.1;rw [M];obtain ⟨h3,l3,S,Z⟩:=u.f2;have key:=S.push (sz:=3) (zero:=[(.int .i64 (0:Int)),(.int .i64 (0:Int)),(.int .i64 (0:Int))]) (bytes:=24) (e:=(⟨s.tick,(p:Int),v⟩:uh)) (cs:=[(.int .i64 s.tick),(.int .i64 (p:Int)),(.int .i64 v)]) rfl (λ_=>rfl) (λ_=>rfl) rfl ⟨by omega,by omega⟩
   (K:=λr2 g=>aj none (some (K.q (aH K.c p))) λG=>
 cl g (Addr.add G 2) [r2.v] (λi=>
 Q i)) λJ k2 T=> ?_
  ·exact λb t hb=>⟨⟨nr (lx hb) (w.eM (n:=1) rfl),trivial⟩,key b t hb⟩
  ·have U:=Z _ _ T;obtain ⟨i,P,C,H⟩:=U.f1;refine aP (C.st (⟨x.procs,x.ag,J,x.lost,x.forbidden,x.ak,x.dU⟩:bm) (by show 2+1<=7;omega) rfl λl D=>f l ?_);have E:=H _ _ D;have:=put (⟨x.procs,x.ag,J,x.lost,x.forbidden,x.ak,x.dU⟩:bm) {s.part (aH K.c p) with log:=(s.part (aH K.c p)).log++ [⟨s.tick,(p:Int),v⟩]} (d (aH K.c p)) l j E;rw [zN] at this;exact this
 ·rw [if_neg (λe=>h (of_decide_eq_true e))];rw [if_neg h] at f;refine aP (w.ld (shf:=ab .i64) x.lost rfl ?_);have ex:x.lost=(s.part (aH K.c p)).lost:=j.2.2.1;rw [ex];refine zwz (N3 L.lost ?_);obtain ⟨i,P,C,H⟩:=u.f1;refine aP (C.st (⟨x.procs,x.ag,x.log,more (s.part (aH K.c p)).lost,x.forbidden,x.ak,x.dU⟩:bm) (by show 3+1<=7;omega) rfl λl D=>f l ?_);have E:=H _ _ D;have:=put (⟨x.procs,x.ag,x.log,more (s.part (aH K.c p)).lost,x.forbidden,x.ak,x.dU⟩:bm) {s.part (aH K.c p) with lost:=more (s.part (aH K.c p)).lost} (d (aH K.c p)) l ⟨j.1,j.2.1,rfl,j.2.2.2⟩ E;rw [zN] at this;exact this
end
def nu (c:bd) (s:MS) (i id:Nat):Int:=if id / 2<nQ c/\aH c (id / 2)=i then (if id%2=0 then (s.proc (id / 2)).timer else (s.proc (id / 2)).cp) else 0
def eH (c:bd) (a:Nat->Nat->Int) (s:MS):Prop:=∀i id,i<nP c->a i id=nu c s i id
def TW (s:MS):Nat->Int×Int:=λq=>((s.proc q).timer,(s.proc q).cp)
section
variable {c:bd} {s s':MS} {b:Nat->Nat->Int} {p:Nat} {y:ai}
theorem rU (h:(y.timer,y.cp)=((s.proc p).timer,(s.proc p).cp)):TW (s.bw p y)=TW s:=by
 funext q;unfold TW;by_cases e:q=p
 ·subst e;rw [fV,h]
 ·rw [iN e]
theorem rL {v:Int}:TW (da c s p v)=TW s:=rU rfl
theorem X6 :TW (pT s p)=TW s:=rU rfl
theorem Oa {kS:Int}:TW (jY s kS)=TW s:=by
 unfold jY;split
 ·exact X6
 ·rfl
theorem Fg {q:Nat} (h:(y.timer,y.cp)=((s.proc q).timer,(s.proc q).cp)):TW (s.bw q (eT y))=TW s:=rU h
theorem X8 {to v:Int} {fl:Nat->Nat->Bool}:TW (my c fl s p to v)=TW s:=by
 unfold my;split
 ·exact rL
 split
 ·exact rL
 split
 ·split
  ·exact rL
  split
  ·dsimp only;have e:TW (s.bw to.toNat (bY (s.proc to.toNat) (aH c p) (iM p v)))=TW s:=rU rfl;rw [<-e];exact rU rfl
  ·rw [rL];exact Fg rfl
 split
 ·rw [rL];exact rU rfl
 ·rw [rL];exact Fg rfl
theorem JX {t:Bool}:TW (lj c s p t)=TW s:=by
 unfold lj;dsimp only;split
 ·split
  ·exact rU rfl
  ·rw [rL];exact rU rfl
 ·split
  ·exact rU rfl
  split
  ·exact rU rfl
  ·exact rU rfl
theorem Ya {n:Int}:TW (kE c s p n)=TW s:=by
 unfold kE;dsimp only;split
 ·unfold kE.goK;exact rU rfl
 ·exact rU rfl
theorem TE {n:Int}:TW (Ap c s p n)=TW s:=by
 unfold Ap;dsimp only;split
 ·split
  ·rfl
  ·exact Oa
 ·rfl
theorem Zi {v:Int}:TW (uy c s p v)=TW s:=rfl
theorem eH.cT (t:eH c b s) (h:TW s'=TW s):eH c b s':=λi id hi=>by have:=congrFun h (id / 2);have a:(s'.proc (id / 2)).timer=(s.proc (id / 2)).timer:=congrArg Prod.fst this;have d:(s'.proc (id / 2)).cp=(s.proc (id / 2)).cp:=congrArg Prod.snd this;rw [t i id hi];unfold nu;rw [a,d]
theorem eH.set (t:eH c b s) (hp:p<nQ c) {id:Nat} {v:Int} (hid:id=2*p\/id=2*p+1) (h:∀q,TW s' q=if q=p then (if id=2*p then (v,(s.proc p).cp) else ((s.proc p).timer,v)) else TW s q):eH c (dd b (aH c p) (dd (b (aH c p)) id v)) s':=λi a hi=>by
 have d:=h (a / 2);by_cases e:a / 2=p
 ·rw [if_pos e] at d;unfold nu;by_cases g:aH c p=i
  ·subst g;rw [lS];have f:=t _ a hi;unfold nu at f;rw [if_pos ⟨by omega,by rw [e]⟩] at f ⊢;rcases hid with rfl | rfl
   ·rw [if_pos rfl] at d;by_cases j:a=2*p
    ·subst j;rw [lS,if_pos (by omega)];exact (congrArg Prod.fst d).symm
    ·rw [lz j,if_neg (by omega)];rw [om] at f;rw [f,e];rw [e] at d;exact (congrArg Prod.snd d).symm
   ·rw [om] at d;by_cases j:a=2*p+1
    ·subst j;rw [lS,if_neg (by omega)];exact (congrArg Prod.snd d).symm
    ·rw [lz j,if_pos (by omega)];rw [if_pos (by omega)] at f;rw [f,e];rw [e] at d;exact (congrArg Prod.fst d).symm
  ·rw [lz (Ne.symm g)];have f:=t _ a hi;unfold nu at f;grind
 ·rw [if_neg e] at d;have m:dd b (aH c p) (dd (b (aH c p)) id v) i a=b i a:=by
   by_cases g:i=aH c p
   ·subst g;rw [lS,lz (by omega)]
   ·rw [lz g]
  rw [m,t i a hi];unfold nu;have k:(s'.proc (a / 2)).timer=(s.proc (a / 2)).timer:=congrArg Prod.fst d;have l:(s'.proc (a / 2)).cp=(s.proc (a / 2)).cp:=congrArg Prod.snd d;rw [k,l]
theorem ML :∀ {l:List Int} {s:MS},TW (l.foldl jY s)=TW s
 | [],s=>rfl
 | a::l,s=>by rw [List.foldl_cons,ML,Oa]
theorem Ob {v:Int}:∀ {l:List ly} {s:MS},TW (l.foldl (λs w=>da c s w.proc.toNat v) s)=TW s
 | [],s=>rfl
 | a::l,s=>by rw [List.foldl_cons,Ob,rL]
theorem Zj {st:Int} (q:Nat):TW (oY c s p st) q=if q=p then (0,0) else TW s q:=by
 rw [zS];unfold qW;rw [Ob];have g:TW (je (iv (jc c (ee c s p st) p) p) p)=TW (iv (jc c (ee c s p st) p) p):=rU rfl;rw [g];have f:TW (jc c (ee c s p st) p)=TW s:=by unfold jc;rw [ML];have d:TW (qn c (ee c s p st) p)=TW (ee c s p st):=rfl;rw [d];have a:TW (gm s p st)=TW s:=rU rfl;rw [<-a];funext r;show ((if r∈_ then sd p _ else _:ai).timer,(if r∈_ then sd p _ else _:ai).cp)=_;split<;>rfl
 by_cases e:q=p
 ·subst e;rw [if_pos rfl];unfold TW iv;rw [fV]
 ·rw [if_neg e,<-f];unfold TW iv;rw [iN e]
theorem eH.ended {st:Int} (t:eH c b s) (hp:p<nQ c):eH c (qX b (aH c p) p) (oY c s p st):=by
 have d:=t.set (s':=s.bw p {s.proc p with timer:=0}) hp (id:=2*p) (v:=0) (.inl rfl) λq=>by
  unfold TW;by_cases e:q=p
  ·subst e;rw [fV,if_pos rfl,if_pos rfl]
  ·rw [iN e,if_neg e]
 have a:=d.set (s':=oY c s p st) hp (id:=2*p+1) (v:=0) (.inr rfl) λq=>by
  rw [Zj];by_cases e:q=p
  ·subst e;rw [if_pos rfl,if_pos rfl,if_neg (by omega),fV]
  ·rw [if_neg e,if_neg e];unfold TW;rw [iN e]
 rw [lS,M6] at a;exact a
end
theorem VO {D:Int->Int->Int->Int} {l:List dF} {k:Core} {tk self:Int} (a:0<=k.pc/\k.pc<=1000) (d:k.aO.length=8) (g:l.length<=256):0<=(j7 D l k tk self).1.pc/\(j7 D l k tk self).1.pc<=1000:=by
 rcases Ek (D:=D) (l:=l) (k:=k) (tk:=tk) (self:=self) with ⟨_,e⟩ | ⟨n,b,f,⟨_,e⟩ | ⟨w,st,_,e⟩⟩
 ·rw [e];exact a
 ·rw [e];have:=(Mh (D:=D) (tk:=tk) (self:=self) b f d).1;grind
 ·rw [e];have h:0<=k.pc/\k.pc<l.length:=Bg (c:=⟨[],[],0,0,0,0,[⟨0,l⟩]⟩) (p:=0) (x:=⟨0,k.pc,[],0,0,false,0,[]⟩) b;cases st
  ·show 0<=k.pc+1/\k.pc+1<=1000;omega
  ·exact a
section
variable {h0 h1 k:Hp} {K:MK} {pm:Addr} {s:MS} {f:Nat->Nat->Int}
theorem VP {p:Nat} {Q:Hp->Prop} (tk:zv) (m:dD h0 K) (u:cP K.c) (o:Has h0 (aJ K pm s f) k) (S:jK K.c s) (hp:p<nQ K.c) (Y:0<=s.tick/\s.tick<=4611686018427387904) (hr:(s.proc p).aO.length=8)
  (hw:∀q,q<nQ K.c->∀l∈(s.proc q).ae,∀z∈l.waiters,z.proc≠(p:Int)) (b4:∀q∈(s.part (aH K.c p)).ah,(p:Int)∉q) (td:eH K.c f s)
  (g:∀a9 i,Has h0 (aJ K pm (ya K.c gK (jO K.c) s p) a9) i->eH K.c a9 (ya K.c gK (jO K.c) s p)->Q i):Vu prog (some pm) (some (K.p p)) Q k:=by
 unfold Vu;have hi:aH K.c p<nP K.c:=u.fo;obtain ⟨h1,z,a,l1,P,R,put⟩:=o.dz hp;have e:gI (dW z)=(s.proc p).core:=P.2.2.2.2.1;have ei:z.dI=(p:Int):=P.1;refine aP (R.ld (shf:=fh) (dW z) rfl ?_);refine aP (R.ld (shf:=af) z.code rfl ?_);refine aP (o.eO.ld (shf:=ab .i64) s.tick rfl ?_);refine aP (R.ld (shf:=ab .i64) z.dI rfl ?_);rw [ei];have U:=(m.code p hp).2;have b2:(jX K.c p).length<=256:=u.qT;have c0:(K.ins p).length<=256:=by have:=congrArg List.length U;rw [List.length_map] at this;omega
 refine YO (VD (m.q7 o.le hp P) (by omega) λc' w k1 l2 T v=> ?_);rw [U,e] at T v;refine aP (wW (o.grow l2) hp λk2 t=> ?_);rw [T] at t;have sp:=S.proc p hp;have b5:=VO (D:=gK) (l:=jX K.c p) (k:=(s.proc p).core) (tk:=s.tick) (self:=(p:Int)) sp.pc hr b2;have W:(w.Kind=7\/w.Kind=8)->0<=w.To/\w.To<K.c.ak:=by
  intro h;rcases Ek (D:=gK) (l:=jX K.c p) (k:=(s.proc p).core) (tk:=s.tick) (self:=(p:Int)) with ⟨C,_⟩ | ⟨n,hn,c1,⟨_,C⟩ | ⟨w',st,b7,C⟩⟩
  ·rw [<-v] at C;have:w.Kind=1:=C;omega
  ·rw [C] at v;have:w.Kind=0:=congrArg Want.kind v;omega
  ·rw [C] at v;have v:s7 w=w':=v;subst v;have b3:dP K.c p (s.proc p)=some n:=hn;have Z:=(u.ins b3).1;rcases Mg b7 with ⟨a,_⟩ | ⟨_,a,_⟩ | ⟨_,a,_⟩ | ⟨_,a,_⟩ | ⟨a,_⟩ | ⟨_,a,_⟩ | ⟨b,a,d,_⟩ | ⟨b,a,d,_⟩ | ⟨a,_⟩
   ·have a:w.Kind=1:=a;omega
   ·have a:w.Kind=2:=congrArg Want.kind a;omega
   ·have a:w.Kind=3:=a;omega
   ·have a:w.Kind=4:=a;omega
   ·have a:w.Kind=5:=a;omega
   ·have a:w.Kind=6:=a;omega
   ·have d:w.To=n.kf:=d;rw [d];exact yD Z (.inl b)
   ·have d:w.To=n.kf:=d;rw [d];exact yD Z (.inr b)
   ·have a:w.Kind=9:=a;omega
 unfold ya at g;dsimp only at g;rw [<-v] at g;generalize hg:(j7 gK (jX K.c p) (s.proc p).core s.tick (p:Int)).1=E at*;have B:jK K.c (s.bw p ((s.proc p).put E)):=by
  refine ⟨λq O=> ?_,S.part⟩;by_cases eq:q=p
  ·subst eq;rw [fV];exact ⟨b5,sp.len,sp.cur,sp.dY⟩
  ·rw [iN eq];exact S.proc q O
 have y:eH K.c f (s.bw p ((s.proc p).put E)):=td.cT (rU rfl);have b6:∀q,q<nQ K.c->∀l∈((s.bw p ((s.proc p).put E)).proc q).ae,∀z∈l.waiters,z.proc≠(p:Int):=λq O l V=>by
  have:((s.bw p ((s.proc p).put E)).proc q).ae=(s.proc q).ae:=by
   by_cases eq:q=p
   ·subst eq;rw [fV];rfl
   ·rw [iN eq]
  rw [this] at V;exact hw q O l V
 generalize X:s.bw p ((s.proc p).put E)=s1 at*;have F:s1.tick=s.tick:=by rw [<-X];rfl
 have b0:s1.part=s.part:=by rw [<-X];rfl
 obtain ⟨h3,z3,a3,l3,b8,b9,_⟩:=t.dz hp;obtain ⟨g1,g2⟩:=m.uz t hi;refine aP (t.eO.ld (shf:=af) K.x.parts rfl ?_);refine aP (b9.ld (shf:=ab .i64) z3.part rfl ?_);have ep:z3.part=(aH K.c p:Int):=b8.2.1;rw [ep];refine ⟨g1,some (K.q (aH K.c p)),g2,?_⟩;dsimp only;have j:∀n:Int,(w.Kind==n)=true↔w.Kind=n:=λn=>by simp
 have ek:(s7 w).kind=w.Kind:=rfl;have b1:(s7 w).to=w.To:=rfl;have ev:(s7 w).value=w.cS:=rfl;rw [ek,b1,ev] at g;by_cases J:w.Kind=1
 ·rw [if_pos ((j 1).2 J)];simp only [if_pos J] at g;exact zmh (N8 m u t B hp λi r=>g _ i r (y.ended hp))
 rw [if_neg (λh=>J ((j 1).1 h))];simp only [if_neg J] at g;by_cases L:w.Kind=2
 ·rw [if_pos ((j 2).2 L)];simp only [if_pos L] at g;exact zuj (Tu m u t B hp b6 λi r=>g _ i r (y.cT X8))
 rw [if_neg (λh=>L ((j 2).1 h))];simp only [if_neg L] at g;by_cases A:w.Kind=3
 ·simp only [if_pos A] at g;refine bH.direct ?_;rw [if_pos ((j 3).2 A)];dsimp only;rw [if_pos ((j 3).2 A),show (w.Kind==4)=false by rw [A];rfl];exact zll (MJ tk m u t B hp λi r=>g _ i r (y.cT JX))
 simp only [if_neg A] at g;by_cases G:w.Kind=4
 ·simp only [if_pos G] at g;refine bH.direct ?_;rw [if_neg (λh=>A ((j 3).1 h))];dsimp only;rw [if_pos ((j 4).2 G),(j 4).2 G];exact zll (MJ tk m u t B hp λi r=>g _ i r (y.cT JX))
 simp only [if_neg G] at g;refine bH.direct ?_;rw [if_neg (λh=>A ((j 3).1 h))];dsimp only;rw [if_neg (λh=>G ((j 4).1 h))];by_cases M:w.Kind=5
 ·rw [if_pos ((j 5).2 M)];simp only [if_pos M] at g;refine Tz m u t hp (by rw [F];exact Y) λi r=> ?_;refine g (wz f (aH K.c p) p s1.tick w.cS) i ?_ ?_
  ·rw [FG,FI] at r ⊢;rw [F] at r ⊢;exact r
  ·refine y.set hp (.inl rfl) λq=> ?_;unfold TW;by_cases eq:q=p
   ·subst eq;rw [fV,if_pos rfl,if_pos rfl,F]
   ·rw [iN eq,if_neg eq]
 rw [if_neg (λh=>M ((j 5).1 h))];simp only [if_neg M] at g;by_cases N:w.Kind=6
 ·rw [if_pos ((j 6).2 N)];simp only [if_pos N] at g;refine TA m u t hp (by rw [F];exact Y) λi r=> ?_;refine g (dd f (aH K.c p) (dd (f (aH K.c p)) (2*p+1) (s1.tick+qv (vX w.cS 1) 1099511627776))) i ?_ ?_
  ·rw [FG,FI] at r ⊢;exact r
  ·refine y.set hp (.inr rfl) λq=> ?_;unfold TW;by_cases eq:q=p
   ·subst eq;rw [fV,if_pos rfl,if_neg (by omega),F]
   ·rw [iN eq,if_neg eq]
 rw [if_neg (λh=>N ((j 6).1 h))];simp only [if_neg N] at g;by_cases H:w.Kind=7
 ·rw [if_pos ((j 7).2 H)];simp only [if_pos H] at g;exact VN m u t B hp (W (.inl H)) (by rw [b0];exact b4) λi r=>g _ i r (y.cT Ya)
 rw [if_neg (λh=>H ((j 7).1 h))];simp only [if_neg H] at g;by_cases I:w.Kind=8
 ·rw [if_pos ((j 8).2 I)];simp only [if_pos I] at g;exact Q3 m u t B hp (W (.inr I)) λi r=>g _ i r (y.cT TE)
 rw [if_neg (λh=>I ((j 8).1 h))];simp only [if_neg I] at g;by_cases a8:w.Kind=9
 ·rw [if_pos ((j 9).2 a8)];simp only [if_pos a8] at g;exact X5 m u t B hp λi r=>g _ i r (y.cT Zi)
 grind
end
def n9 (x:ai):ai:={x with cp:=0,state:=0,pc:=x.pc+1}
def sr (x:ai):ai:={x with timer:=0,bK:=true,state:=if x.state=1 then 0 else x.state}
def jM (a:List Int) (q:Nat) (x:ai):ai:=
 if ((2*q:Nat):Int)∈a then sr (if ((2*q+1:Nat):Int)∈a then n9 x else x) else (if ((2*q+1:Nat):Int)∈a then n9 x else x)
def mf (s:MS) (a:List Int):MS:=⟨s.tick,s.part,λq=>jM a q (s.proc q)⟩
theorem JY {t:Int} {x:ai}:nf t x=(if 0<x.timer/\x.timer<=t then sr (if 0<x.cp/\x.cp<=t then n9 x else x) else (if 0<x.cp/\x.cp<=t then n9 x else x)):=by
 unfold nf;dsimp only;by_cases h:0<x.cp/\x.cp<=t
 ·simp only [if_pos h];rfl
 ·simp only [if_neg h];rfl
theorem TI {a:List Int} {q:Nat} {x:ai} (h:((2*q+1:Nat):Int)∉a):jM (a++ [((2*q+1:Nat):Int)]) q x=n9 (jM a q x):=by
 unfold jM;have b:((2*q+1:Nat):Int)∈a++ [((2*q+1:Nat):Int)]:=by simp
 have c:((2*q:Nat):Int)∈a++ [((2*q+1:Nat):Int)]↔((2*q:Nat):Int)∈a:=by grind
 simp only [if_pos b,if_neg h,c];split
 ·unfold sr n9;simp
 ·rfl
theorem MM {a:List Int} {q:Nat} {x:ai} (h:((2*q:Nat):Int)∉a):jM (a++ [((2*q:Nat):Int)]) q x=sr (jM a q x):=by unfold jM;grind
theorem Q4 {a:List Int} {q:Nat} {x:ai} {id:Int} (b:id≠((2*q:Nat):Int)) (c:id≠((2*q+1:Nat):Int)):jM (a++ [id]) q x=jM a q x:=by unfold jM;grind
theorem TK {s:MS} {a:List Int} {id:Int} {q:Nat} {y:ai} (h:id=((2*q:Nat):Int)\/id=((2*q+1:Nat):Int)) (b:rS y=rS (jM (a++ [id]) q (s.proc q))):uV ((mf s a).bw q y)=uV (mf s (a++ [id])):=by
 rw [FI,b];unfold uV mf MS.bw;congr 1;funext r;unfold dd;by_cases e:r=q
 ·grind
 ·rw [if_neg e];show rS (jM a r (s.proc r))=rS (jM (a++ [id]) r (s.proc r));rw [Q4 (by omega) (by omega)]
section
variable {h0 h1 k:Hp} {K:MK} {pm:Addr} {s:MS} {b:Nat->Nat->Int}
theorem VQ {c:bd} {i:Nat} {ids:List Int} (a:eH c b s) (hi:i<nP c) (n:∀x∈ids,0<=x/\x<(2*nQ c:Nat)) (f:∀j:Nat,(j:Int)∈ids↔0<b i j/\b i j<=s.tick):mf s ids=jN c s i:=by
 unfold mf jN;congr 1;funext q;by_cases h:q<nQ c/\aH c q=i
 ·rw [if_pos h,JY];unfold jM;have g:b i (2*q)=(s.proc q).timer:=by rw [a i _ hi];unfold nu;rw [show 2*q / 2=q by omega,if_pos h,if_pos (by omega)]
  have l:b i (2*q+1)=(s.proc q).cp:=by rw [a i _ hi];unfold nu;rw [show (2*q+1) / 2=q by omega,if_pos h,if_neg (by omega)]
  grind
 ·rw [if_neg h];have d:∀j,j / 2=q->¬(j:Int)∈ids:=λj m e=>by have h1:=(f j).1 e;rw [a i _ hi] at h1;unfold nu at h1;grind
  unfold jM;rw [if_neg (d _ (by omega)),if_neg (d _ (by omega))]
theorem eH.due {c:bd} {i:Nat} (g:eH c b s) (hi:i<nP c):eH c (dd b i (nN (b i) s.tick)) (jN c s i):=λj id f=>by
 have key:∀x:ai,(nf s.tick x).timer=(if 0<x.timer/\x.timer<=s.tick then 0 else x.timer)/\(nf s.tick x).cp=(if 0<x.cp/\x.cp<=s.tick then 0 else x.cp):=λx=>by rw [JY];by_cases h1:0<x.timer/\x.timer<=s.tick<;>by_cases a:0<x.cp/\x.cp<=s.tick<;>simp [h1,a,sr,n9]
 by_cases e:j=i
 ·subst e;rw [lS];unfold nN;rw [g j id f];unfold nu;by_cases h:id / 2<nQ c/\aH c (id / 2)=j
  ·rw [if_pos h,if_pos h];have d:(jN c s j).proc (id / 2)=nf s.tick (s.proc (id / 2)):=if_pos h;rw [d];by_cases a:id%2=0
   ·rw [if_pos a,if_pos a];exact (key _).1.symm
   ·rw [if_neg a,if_neg a];exact (key _).2.symm
  omega
 ·rw [lz e,g j id f];unfold nu;by_cases h:id / 2<nQ c/\aH c (id / 2)=j
  ·rw [if_pos h,if_pos h];have d:(jN c s i).proc (id / 2)=s.proc (id / 2):=if_neg (by rw [h.2];exact λl=>e l.2);rw [d]
  omega
theorem Yb {i:Nat} {Q:Hp->Prop} (m:dD h0 K) (mc:cP K.c) (o:Has h0 (aJ K pm s b) k) (sa:jK K.c s) (hi:i<nP K.c) (G:eH K.c b s)
  (V:∀H j,Has h0 (aJ K pm (jN K.c s i) H) j->eH K.c H (jN K.c s i)->Q j):V6 prog (some pm) (some (K.q i)) Q k:=by
 unfold V6;have b7:=mc.procs;obtain ⟨h7,I,b9,b0,l7,Y,a8,ow,a9⟩:=o.iV hi;have O:I.dU=some b0:=Y.2.2.2.2.2;refine aP (a8.ld (shf:=an) I.dU rfl ?_);refine aP (o.eO.ld (shf:=ab .i64) s.tick rfl ?_);rw [O];refine Ri (Vr ow (by omega) λsl k2 ids w X W o2=> ?_);have f:Has h0 ((aJ K pm s (dd b i (nN (b i) s.tick))).star (dA 1 fC sl ids)) k2:=o2.carry λj d=>a9 _ j d;obtain ⟨r,F,o7,D⟩:=f.aside (λ_=>rfl);have m6:=m.mono F;have b2:ids.length<=2*nQ K.c:=wS (2*nQ K.c) ids X w;have b4:=D.1;refine au.intro (λ(t:Int) j=>0<=t/\t<=(ids.length:Int)/\Has r (aJ K pm (mf s (ids.take t.toNat)) (dd b i (nN (b i) s.tick))) j) (λt _=>(ids.length-t).toNat) ⟨by omega,by omega,by
  have e:mf s (ids.take (0:Int).toNat)=s:=by unfold mf jM;simp
  rw [e];exact o7⟩ ?_
 rintro t j ⟨t0,t1,d⟩;by_cases h:t<(ids.length:Int)
 ·rw [if_pos (fT)];refine bM.direct ?_;refine Rs.get (sh:=ab .i64) (Rw.mono d.le D) (λ_=>rfl) (by omega) t0 h λ(g:Int) v=> ?_;have U:=w g (List.mem_of_getElem? v);have u:g.toNat / 2<nQ K.c:=by omega
  have S:yw (Int.tdiv g 2)=((g.toNat / 2:Nat):Int):=by rw [Int.tdiv_eq_ediv_of_nonneg U.1,aI];omega
  have b6:g∉ids.take t.toNat:=by
   intro b3;obtain ⟨b5,T⟩:=List.getElem?_eq_some_iff.1 v;have b8:ids=ids.take t.toNat++g::ids.drop (t.toNat+1):=by rw [<-T,List.getElem_cons_drop,List.take_append_drop]
   grind
  generalize b1:g.toNat / 2=q at*;obtain ⟨P,R⟩:=m6.ptr d u;refine aP (d.eO.ld (shf:=af) K.x.procs rfl ⟨by decide,?_⟩);rw [S];refine ⟨P,some (K.p q),R,?_⟩;obtain ⟨h2,z,a,l2,n,B,put⟩:=d.dz u;have L:z.dI=(q:Int):=n.1;refine aP (B.ld (shf:=ab .i64) z.dI rfl ?_);rw [L];refine JV (zx (by omega) ?_);have step:∀ {y:ai} {l:Hp},rS y=rS (jM (ids.take t.toNat++ [g]) q (s.proc q))->Has r (aJ K pm ((mf s (ids.take t.toNat)).bw q y) (dd b i (nN (b i) s.tick))) l->
    (0<=yw (t+1)/\yw (t+1)<=(ids.length:Int)/\Has r (aJ K pm (mf s (ids.take (yw (t+1)).toNat)) (dd b i (nN (b i) s.tick))) l)/\(ids.length-yw (t+1)).toNat<(ids.length-t).toNat:=by
   intro y l Z f;rw [aI];refine ⟨⟨by omega,by omega,?_⟩,by omega⟩;have e:(t+1).toNat=t.toNat+1:=by omega
   rw [e,List.take_add_one,v];show Has r (aJ K pm (mf s (ids.take t.toNat++ [g])) _) l;rw [FG,<-TK (q:=q) (y:=y) (by omega) Z,<-FG];exact f
  by_cases A:g=((2*q+1:Nat):Int)
  ·rw [if_pos (by rw [A];simp)];have N:((mf s (ids.take t.toNat)).proc q).pc=(s.proc q).pc:=by show (jM (ids.take t.toNat) q (s.proc q)).pc=_;unfold jM;rw [if_neg (c:=((2*q+1:Nat):Int)∈_) (by grind)];split<;>rfl
   have e:gI (dW z)=((mf s (ids.take t.toNat)).proc q).core:=n.2.2.2.2.1;have M:(dW z).PC=(s.proc q).pc:=(congrArg Core.pc e).trans N;refine aP (B.ld (shf:=fh) (dW z) rfl ?_);refine Dq (Fp (by rw [M];exact sa.told u) λc' J=> ?_);refine TL (EI d u λl f=>step ?_ f);rw [J,e,A,TI (by grind)];rfl
  ·rw [if_neg (by simpa using A)];have E:g=((2*q:Nat):Int):=by omega
   refine aP (B.st (uR z true) (by show 13+1<=15;omega) rfl λl f=> ?_);have C:z.state=((mf s (ids.take t.toNat)).proc q).state:=n.2.2.2.1;refine aP (f.ld (shf:=ab .i64) z.state rfl ?_);by_cases h1:z.state=1
   ·rw [if_pos (by rw [h1];rfl)];refine aP (f.st (og (uR z true) 0) (by show 3+1<=15;omega) rfl λk4 o4=> ?_);refine step ?_ (put _ _ _ ((n.bK true).state 0) rfl rfl o4);rw [E,MM (by grind)];unfold sr;rw [if_pos (by rw [<-h1,C];rfl)];rfl
   ·rw [if_neg (by simpa using h1)];refine step ?_ (put _ _ _ (n.bK true) rfl rfl f);rw [E,MM (by grind)];unfold sr;rw [if_neg (by rw [C] at h1;exact h1)];rfl
 ·rw [if_neg (λe=>h (by grind))];have e:t.toNat=ids.length:=by omega
  rw [e,List.take_of_length_le (Nat.le_refl _),VQ G hi w W] at d;exact V _ j (d.mono F) (G.due hi)
end
section
variable {c:bd} {fl:Nat->Nat->Bool} {s:MS} {T:Int}
theorem Good.pn (m:cP c) (g:Good c fl s No No T):jK c s where
 proc:=λp hp=>by
  have pm:=g.proc p hp;have F:=m.qT (p:=p);have G:=m.lane;have e:=m.procs;refine ⟨by have:=pm.pc;omega,pm.mG,pm.cur,λl a=> ?_⟩;obtain ⟨i,hi,j⟩:=List.getElem_of_mem a;have d:(s.proc p).ae[i]? =some l:=by grind
  obtain ⟨a1,a2,a3,_⟩:=pm.dY i l d;obtain ⟨b,f,n⟩:=g.dY p hp i l d;have A:∀w∈l.waiters,0<=w.proc/\w.proc<(nQ c:Int):=λw y=>by obtain ⟨o,r,_⟩:=n w y;omega
  have v:=wS (nQ c) (l.waiters.map (·.proc)) b λx H=>by grind
  rw [List.length_map] at v;exact ⟨by omega,by omega,a2,a3,b,A⟩
 part:=λi hi=>by
  have pm:=g.part i hi;have t:=m.log;have C:=m.ak;have D:=m.procs;have E:(eC c i).length<=nQ c:=by have t:(eC c i).length<=(List.range (nQ c)).length:=List.length_filter_le ..;grind
  have e:∀q∈(s.part i).ah,q.Nodup/\∀z∈q,0<=z/\z<(nQ c:Int):=λq a=>by
   obtain ⟨k,u,j⟩:=List.getElem_of_mem a;have d:(s.part i).ah[k]? =some q:=by rw [List.getElem?_eq_getElem u,j]
   obtain ⟨b,f,_⟩:=g.jT i hi k q d;exact ⟨b,λz B=>by obtain ⟨o,r,_⟩:=f z B;omega⟩
  refine ⟨⟨pm.cur.1,?_⟩,by have:=pm.kg;omega,pm.lost,pm.lM,by have:=pm.im;have:=pm.iP;omega,pm.iP,⟨by have:=pm.iP;omega,λq a=> ?_⟩,e⟩
  ·by_cases h:0<(s.part i).ag
   ·have:=pm.cur.2 h;omega
   ·omega
  ·have:=wS (nQ c) q (e q a).1 (e q a).2;omega
theorem VR {i t:Nat} (g:t<(eC c i).length) (j:∀k,k<t->(s.proc ((eC c i).getD (((s.part i).ag.toNat+k)%(eC c i).length) 0)).state≠0) (h:(s.proc ((eC c i).getD (((s.part i).ag.toNat+t)%(eC c i).length) 0)).state=0):
  j6 c s i=some (((s.part i).ag.toNat+t)%(eC c i).length):=by
 unfold j6;have e:List.range (eC c i).length=List.range t++(t::(List.range (eC c i).length).drop (t+1)):=by
  have a:(List.range (eC c i).length)[t]? =some t:=List.getElem?_range g;obtain ⟨b,d⟩:=List.getElem?_eq_some_iff.1 a;have f:List.take t (List.range (eC c i).length)=List.range t:=by rw [List.take_range,Nat.min_eq_left (by omega)]
  calc List.range (eC c i).length=(List.range (eC c i).length).take t++(List.range (eC c i).length).drop t:=(List.take_append_drop t _).symm
   _=_:=by rw [f,List.drop_eq_getElem_cons b,d]
 grind
theorem VS {i:Nat} (a:∀k,k<(eC c i).length->(s.proc ((eC c i).getD (((s.part i).ag.toNat+k)%(eC c i).length) 0)).state≠0):j6 c s i=none:=by unfold j6;grind
theorem aa6 {D:Int->Int->Int->Int} {i a n:Nat} (h:j6 c s i=some a):oy c D fl i (n+1) s=oy c D fl i n (mD c D fl s i a):=by
 have e:oy c D fl i (n+1) s=(match j6 c s i with
  | none=>s
  | some a=>oy c D fl i n (mD c D fl s i a)):=rfl
 rw [e,h]
theorem Good.BJ (g:Good c fl s No No T) {p:Nat} (o:(s.proc p).state=0):(∀q,q<nQ c->∀l∈(s.proc q).ae,∀z∈l.waiters,z.proc≠(p:Int))/\∀i,i<nP c->∀q∈(s.part i).ah,(p:Int)∉q:=by
 have f:Out s No No p:=xN ⟨by omega,by omega⟩;refine ⟨λq b l j w n e=> ?_,λi hi q b m=> ?_⟩
 ·obtain ⟨i,hi,d⟩:=List.getElem_of_mem j;have a:(s.proc q).ae[i]? =some l:=by grind
  exact ((g.dY q b i l a).2.2 w n).out f (by omega)
 ·obtain ⟨k,h,d⟩:=List.getElem_of_mem b;have a:(s.part i).ah[k]? =some q:=by rw [List.getElem?_eq_getElem h,d]
  exact ((g.jT i hi k q a).2.1 _ m).out f (by omega)
end
section
variable {h0 h1 k:Hp} {K:MK} {pm:Addr} {s:MS} {b:Nat->Nat->Int}
theorem VT {p:Int} {Q:Int->Hp->Prop} (m:dD h0 K) (l:cP K.c) (o:Has h0 (aJ K pm s b) k) (q:jK K.c s) (r:eH K.c b s) (d:∀i a,Has h0 (aJ K pm (kC K.c s p).1 i) a->eH K.c i (kC K.c s p).1->Q (kC K.c s p).2 a):OO prog (some pm) p Q k:=by
 unfold OO;refine zlk (MI m o ?_);unfold kC at d;by_cases h:uW K.c s p≠0
 ·grind
 rw [if_neg (by simpa using h)];rw [if_neg h] at d;obtain ⟨t,e,u⟩:=DL (Classical.not_not.1 h);have j:((p.toNat:Nat):Int)=p:=by omega
 obtain ⟨f,g⟩:=m.ptr o e;rw [j] at f g;refine aP (o.eO.ld (shf:=af) K.x.procs rfl ⟨f,some (K.p p.toNat),g,?_⟩);exact zmh (N8 m l o q e λa n=>d _ a n (r.ended e))
theorem Z1 {t:Int} {Q:Int->Hp->Prop} (m:dD k K) (u:cP K.c) (o:0<=t) (f:Q (nt K.c t:Int) k):Xu prog (some K.sl) t Q k:=by
 unfold Xu;obtain ⟨sl,n,h,e⟩:=m.s2;have g:=u.table;have q:=e.1;have r:0<K.c.table.length:=List.length_pos_iff.2 g.1;have ld:∀ {a:Sl->Prop},a sl->aD none af k (K.sl.add 0) a:=λ{a} p=>⟨sl,λj v hv=>by
  cases j with
  | zero=>have:=h 0 v (by simpa [ba,Sl.v] using hv);rw [rY];exact this
  | succ j=>simp [ba] at hv,p⟩
 rw [if_neg (by simp;omega)];refine aP (ld (aP (ld ⟨by omega,?_⟩)));have l:Int.tmod t ((sl.len:Nat):Int)=((t.toNat%K.c.table.length:Nat):Int):=by rw [Int.tmod_eq_emod_of_nonneg o,q,Int.natCast_emod];congr 1;omega
 rw [l];have w:t.toNat%K.c.table.length<K.c.table.length:=Nat.mod_lt _ r;refine kV (sh:=ab .i64) e λ(x:Int) d=> ?_;rw [Int.toNat_natCast] at d;unfold nt at f;have i:K.c.table.getD (t.toNat%K.c.table.length) 0=x:=by simp [List.getD,d]
 rw [i] at f;have:=g.2.2 x (List.mem_of_getElem? d);grind
theorem Oc {Q:Int->Hp->Prop} (tk:zv) (m:dD h0 K) (l:cP K.c) (o:Has h0 (aJ K pm s b) k) (g:Good K.c (jO K.c) s No No s.tick) (ht:s.tick<4611686018427387904) (td:eH K.c b s)
  (O:∀n r,Has h0 (aJ K pm (mC K.c gK (jO K.c) s) n) r->eH K.c n (mC K.c gK (jO K.c) s)->Q (nt K.c s.tick:Int) r):Jk prog (some pm) Q k:=by
 unfold Jk;have b4:=g.tick;have d8:=l.fuel;have hi:=l.mP (t:=s.tick);have d9:=l.procs;refine aP (o.eO.ld (shf:=an) K.x.tO rfl ?_);refine aP (o.eO.ld (shf:=ab .i64) s.tick rfl ?_);rw [m.s1];refine zzo (Z1 (m.mono o.le) l b4 ?_);have b2:mC K.c gK (jO K.c) s=⟨(oy K.c gK (jO K.c) (nt K.c s.tick) K.c.fuel.toNat (jN K.c s (nt K.c s.tick))).tick+1,(oy K.c gK (jO K.c) (nt K.c s.tick) K.c.fuel.toNat (jN K.c s (nt K.c s.tick))).part,(oy K.c gK (jO K.c) (nt K.c s.tick) K.c.fuel.toNat (jN K.c s (nt K.c s.tick))).proc⟩:=rfl;rw [b2] at O;generalize nt K.c s.tick=i at*;obtain ⟨g1,g2⟩:=m.uz o hi;refine aP (o.eO.ld (shf:=af) K.x.parts rfl ⟨g1,some (K.q i),g2,?_⟩);have gd:=(g.wH (T':=s.tick+1) (by omega)).due (i:=i);refine zwv (Yb m l o (g.pn l) hi td λd1 k1 X c8=> ?_);have a9:K.x.ja=K.c.fuel:=m.cfg.fuel;have G:(jN K.c s i).tick=s.tick:=rfl;generalize jN K.c s i=s1 at*;refine aP ?_;rw [rY];refine X.eO.ld (shf:=ab .i64) K.x.ja rfl ?_;rw [a9];obtain ⟨d5,d0⟩:=Good.turns (D:=gK) l hi K.c.fuel.toNat gd (by rw [G]);refine bM.intro (λr=>∃n,Has h0 (aJ K pm (oy K.c gK (jO K.c) i K.c.fuel.toNat s1) n) r/\eH K.c n (oy K.c gK (jO K.c) i K.c.fuel.toNat s1)) ?_ ?_
 ·refine au.intro (λ(t:Int) r=>0<=t/\t<=K.c.fuel/\∃d n,Has h0 (aJ K pm d n) r/\eH K.c n d/\Good K.c (jO K.c) d No No (s.tick+1)/\d.tick=s.tick/\oy K.c gK (jO K.c) i (K.c.fuel-t).toNat d=oy K.c gK (jO K.c) i K.c.fuel.toNat s1) (λt _=>(K.c.fuel-t).toNat) ⟨by omega,by omega,s1,d1,X,c8,gd,G,by rw [Int.sub_zero]⟩ ?_;rintro t r ⟨t0,t1,d,n,w,c7,E,N,y⟩;by_cases h:t<K.c.fuel
  ·rw [if_pos (decide_eq_true h)];have R:=(m.own i hi).mono w.le;have I:=R.1;rw [List.length_map] at I;have d7:(eC K.c i).length<=1000:=by have h1:(eC K.c i).length<=(List.range (nQ K.c)).length:=List.length_filter_le ..;grind
   have en:(K.c.fuel-t).toNat=(K.c.fuel-(t+1)).toNat+1:=by omega
   rw [en] at y;have si:=(E.pn l).part i hi;have d6:=si.cur;obtain ⟨h3,x,lp,wp,l3,T,B,_⟩:=w.tL hi;have C:x.procs=K.own i:=T.1;have ec:x.ag=(d.part i).ag:=T.2.1;refine aP (B.ld (shf:=af) x.procs rfl ?_);rw [C];refine au.intro (λ(j:Int) V=>V=r/\0<=j/\j<=((eC K.c i).length:Int)/\∀A,A<j.toNat->(d.proc ((eC K.c i).getD (((d.part i).ag.toNat+A)%(eC K.c i).length) 0)).state≠0) (λj _=>((eC K.c i).length-j).toNat) ⟨rfl,by omega,by omega,λA b8=>by omega⟩ ?_;rintro j _ ⟨rfl,j0,j1,P⟩;by_cases hj:j<((eC K.c i).length:Int)
   ·rw [if_pos (fT)];refine aP (B.ld (shf:=ab .i64) x.ag rfl ?_);refine aP (B.ld (shf:=af) x.procs rfl ?_);rw [C,ec];have b5:Int.tmod (yw ((d.part i).ag+j)) (((K.own i).len:Nat):Int)=((((d.part i).ag.toNat+j.toNat)%(eC K.c i).length:Nat):Int):=by rw [aI,Int.tmod_eq_emod_of_nonneg (by omega),I,Int.natCast_emod];grind
    rw [b5];have H:((d.part i).ag.toNat+j.toNat)%(eC K.c i).length<(eC K.c i).length:=Nat.mod_lt _ (by omega);refine ⟨by omega,?_⟩;refine aP (w.eO.ld (shf:=af) K.x.procs rfl ?_);refine aP (B.ld (shf:=af) x.procs rfl ?_);rw [C];generalize ha:((d.part i).ag.toNat+j.toNat)%(eC K.c i).length=a at H ⊢;refine Rs.get (sh:=ab .i64) R (λ_=>rfl) (by omega) (by omega) (by grind) λ(q':Int) u=> ?_;rw [Int.toNat_natCast,List.getElem?_map] at u;have b7:=List.getElem?_eq_getElem H;rw [b7] at u;have u:((eC K.c i)[a]:Int)=q':=Option.some.inj u;have b0:(eC K.c i).getD a 0=(eC K.c i)[a]:=by grind
    have J:(eC K.c i)[a]∈eC K.c i:=List.getElem_mem H;rw [<-b0] at u J;generalize c1:(eC K.c i).getD a 0=q at u J;subst u;obtain ⟨F,c0⟩:=gD.1 J;obtain ⟨g5,g6⟩:=m.ptr w F;refine ⟨g5,some (K.p q),g6,?_⟩;obtain ⟨h4,z,ad,l4,hz,oz,_⟩:=w.dz F;refine aP (oz.ld (shf:=ab .i64) z.state rfl ?_);have b1:z.state=(d.proc q).state:=hz.2.2.2.1;rw [b1];by_cases L:(d.proc q).state=0
    ·rw [if_pos (by rw [L];rfl)];refine aP (B.ld (shf:=af) x.procs rfl ?_);rw [C];have b6:Int.tmod (yw (((a:Nat):Int)+1)) (((K.own i).len:Nat):Int)=((a+1:Nat):Int)%((eC K.c i).length:Int):=by rw [aI,Int.tmod_eq_emod_of_nonneg (by omega),I];congr 1
     rw [b6];refine ⟨by omega,?_⟩;have S:j6 K.c d i=some a:=by
      have:=VR (c:=K.c) (s:=d) (i:=i) (t:=j.toNat) (by omega) P (by grind)
      rwa [ha] at this
     obtain ⟨h6,f,e1,e3,l6,U,c4,c5⟩:=w.tL hi;refine aP (c4.st (⟨f.procs,((a+1:Nat):Int)%((eC K.c i).length:Int),f.log,f.lost,f.forbidden,f.ak,f.dU⟩:bm) (by show 1+1<=7;omega) rfl λW M=> ?_);have o4:=c5 (⟨f.procs,((a+1:Nat):Int)%((eC K.c i).length:Int),f.log,f.lost,f.forbidden,f.ak,f.dU⟩:bm) {d.part i with ag:=((a+1:Nat):Int)%((eC K.c i).length:Int)} _ ⟨U.1,rfl,U.2.2⟩ rfl rfl rfl rfl M;have v:=E.part i hi;have gc:Good K.c (jO K.c) (d.eS i {d.part i with ag:=((a+1:Nat):Int)%((eC K.c i).length:Int)}) No No (s.tick+1):=by refine E.parts ⟨⟨Int.emod_nonneg _ (by omega),λ_=>Int.emod_lt_of_pos _ (by omega)⟩,v.kg,v.log,v.lost,v.lM,v.full,v.im,v.iP⟩ rfl rfl
     obtain ⟨c2,c3⟩:=gc.BJ (p:=q) L;have gt:=E.wB (D:=gK) l hi (by rw [N]) S;have d4:(mD K.c gK (jO K.c) d i a).tick=d.tick:=Je;have b3:mD K.c gK (jO K.c) d i a=ya K.c gK (jO K.c) (d.eS i {d.part i with ag:=((a+1:Nat):Int)%((eC K.c i).length:Int)}) q:=by unfold mD;rw [c1]
     refine zvq (VP tk m l o4 (gc.pn l) F (by show 0<=d.tick/\d.tick<=_;rw [N];omega) (gc.proc q F).aO c2 (c3 _ (by rw [c0];exact hi)) (c7.cT rfl) λd3 k5 Z a8=> ?_);rw [<-b3] at Z a8;rw [aI];refine ⟨⟨by omega,by omega,_,d3,Z,a8,gt,by omega,?_⟩,by omega⟩;rw [<-y];exact (aa6 S).symm
    ·rw [if_neg (by simpa using L),aI];grind
   ·rw [if_neg (λe=>hj (by have:=of_decide_eq_true e;omega))];have b9:=VS (c:=K.c) (s:=d) (i:=i) λA b8=>P A (by omega);have e2:oy K.c gK (jO K.c) i ((K.c.fuel-(t+1)).toNat+1) d=d:=by unfold oy;rw [b9]
    grind
  ·rw [if_neg (λe=>h (of_decide_eq_true e))];have e0:(K.c.fuel-t).toNat=0:=by omega
   rw [e0] at y;have y:d=_:=y;grind
 ·rintro V ⟨d2,Y,c9⟩;rw [G] at d0;generalize oy K.c gK (jO K.c) i K.c.fuel.toNat s1=s2 at*;refine aP (Y.eO.ld (shf:=ab .i64) s2.tick rfl ?_);obtain ⟨h7,l7,o7,_,c6⟩:=Y.fst;rw [aI];refine aP (o7.st (rG K.x (s2.tick+1)) (by show 9+1<=12;omega) rfl λW M=> ?_);exact O d2 W (c6 _ _ M) c9
end
abbrev xT (l:Sl) (a:List cR):dR:=jI (cf.ok (sh:=bQ) (sz:=6) xt) l a
abbrev vz (l:Sl) (a:List ai):dR:=jI (cf.ok (sh:=aN) (sz:=15) wJ) l a
section
variable {h0 h1 k:Hp} {K:MK} {pm:Addr} {s:MS} {g:Nat->Nat->Int}
def toE (e:uh):dw:=⟨e.tick,e.proc,e.value⟩
theorem Z2 {i:Nat} {Ps:Sl} {ps:List cR} {rest:Sl->Hp->Prop} (mc:cP K.c) (o:Has h0 ((aJ K pm s g).star (xT Ps ps)) k) (sa:jK K.c s) (hi:i<nP K.c) (c4:ps.length<=1000)
  (hk:∀z j,Has h0 ((aJ K pm s g).star (xT z (ps++ [s.part i]))) j->rest z j):
 aj none (some (K.q i)) λp2=>
 aD none an k (Addr.add p2 5) λx3=>
 bu prog OU [(.pointer x3)] af af (λr M l=>
 aj none (some (K.q i)) λZ=>
 aD none (ab .i64) l (Addr.add Z 1) λw=>
 aj none (some (K.q i)) λp4=>
 aD none af l (Addr.add p4 2) λx5=>
 aj none (some (K.q i)) λp5=>
 aD none (ab .i64) l (Addr.add p5 3) λx6=>
 aj none (some (K.q i)) λp6=>
 aD none (ab .i64) l (Addr.add p6 4) λx7=>
 aa prog IB [x5.v] af (λr2 m=>
 ((True/\((aR m (Addr.add Z 1) [(.int .i64 w)])/\((aR m (Addr.add p5 3) [(.int .i64 x6)])/\((aR m (Addr.add p6 4) [(.int .i64 x7)])/\True))))/\bG [(.int .i64 w),r2.v,(.int .i64 x6),(.int .i64 x7),r.v,M.v] (λa G=>
 ((True/\True)/\gv 6 96 [(.int .i64 (0:Int)),(.slice none 0 0),(.int .i64 (0:Int)),(.int .i64 (0:Int)),(.slice none 0 0),(.slice none 0 0)] ⟨Ps.base,Ps.len,Ps.cap⟩ ⟨(some a),1,1⟩ (λN h5=>
 rest N h5) G)) m)) l) k:=by
 have A:=sa.part i hi;obtain ⟨U,lA,oM,_,gL⟩:=o.fst;obtain ⟨m,w,b0,c7,l4,a9,b8,ol,c0⟩:=oM.rp hi;have el:w.ak=some b0:=a9.2.2.2.2.1;refine aP (b8.ld (shf:=an) w.ak rfl ?_);rw [el];refine zzn (QX ol ⟨by have:=A.iC.1;omega,A.iC.2⟩ A.im λO P V o2=> ?_);have X:Has U ((aJ K pm s g).star ((um O (s.part i).av).star (xU P (s.part i).ah))) V:=o2.carry λj J=>by
  have G:=c0 _ _ j J;have e:s.eS i {s.part i with av:=(s.part i).av,ah:=(s.part i).ah}=s:=DZ
  rwa [e] at G
 obtain ⟨hB,lB,b5,⟨F3,c2,c1⟩,c6⟩:=X.fst;obtain ⟨h6,x,lp,wp,l6,I,u,b7,_⟩:=b5.GA hi;refine aP (u.ld (shf:=ab .i64) x.ag rfl ?_);refine aP (u.ld (shf:=af) x.log rfl ?_);refine aP (u.ld (shf:=ab .i64) x.lost rfl ?_);refine aP (u.ld (shf:=ab .i64) x.forbidden rfl ?_);refine zfa ?_;unfold RH;have c3:=A.kg;refine xO (bW.cm 88 yv rfl) (b7.jW (λ_=>rfl)) (by decide) (λ_=>rfl) (λ_=>rfl) rfl ⟨by omega,by omega⟩ λQ W a8 n3=> ?_;have L:=u.grow a8;refine ⟨⟨trivial,L.eM (n:=1) rfl,L.eM (n:=1) rfl,L.eM (n:=1) rfl,trivial⟩,?_⟩;have b1:Has V (jI (cf.ok (sh:=du) (sz:=3) (fD.ok λx p=>uU x=p)) Q (s.part i).log) W:=n3.jC (f:=toE) (λ_=>rfl) λ_=>rfl;have Y:=X.beside b1;have b6:Has U ((aJ K pm s g).star (jI xt (⟨x.ag,Q,x.lost,x.forbidden,O,P⟩:bS) (s.part i))) W:=by
  obtain ⟨hC,lC,c5,_,_⟩:=Y.assoc.fst;refine Y.assoc.map λkk F hF=> ?_;refine FP (λ_ h=>h) (λF' h=> ?_) hF;obtain ⟨F1,F2,e,d,⟨F4,F5,B,d',⟨S,r2,b3,D⟩,⟨T,N,b4,E⟩⟩,⟨R,M,b2,C⟩⟩:=h;refine ⟨R++(S++T),⟨R,S,T,rfl,M,r2,N,I.2.1,I.2.2.1,I.2.2.2.1⟩,?_,λb=> ?_⟩
  ·rw [List.nodup_append,List.nodup_append];refine ⟨b2,⟨b3,b4,λa y b hb H=> ?_⟩,λa y b hb H=> ?_⟩
   ·subst H;exact d' a ((D a).2 y) ((E a).2 hb)
   ·subst H;rcases List.mem_append.1 hb with hb | hb
    ·exact d a ((B a).2 (.inl ((D a).2 hb))) ((C a).2 y)
    ·exact d a ((B a).2 (.inr ((E a).2 hb))) ((C a).2 y)
  ·rw [e b,B b,C b,D b,E b,List.mem_append,List.mem_append];constructor
   ·rintro ((h | h) | h)
    ·exact .inr (.inl h)
    ·exact .inr (.inr h)
    ·exact .inl h
   ·rintro (h | h | h)
    ·exact .inr h
    ·exact .inl (.inl h)
    ·exact .inl (.inr h)
 have oF:=(gL _ _ b6).assoc;obtain ⟨hD,lD,oD,_,b9⟩:=oF.snd;have key:=oD.comm.row (cs:=[(.int .i64 x.ag),Q.v,(.int .i64 x.lost),(.int .i64 x.forbidden),O.v,P.v]) (zero:=[(.int .i64 (0:Int)),(.slice none 0 0),(.int .i64 (0:Int)),(.int .i64 (0:Int)),(.slice none 0 0),(.slice none 0 0)]) (bytes:=96) rfl (λ_=>rfl) (λ_=>rfl) rfl ⟨by omega,by omega⟩ (K:=rest) λz j J=>hk z j (b9 _ _ J);exact λb t hb=>⟨⟨trivial,trivial⟩,key b t hb⟩
theorem Z3 {c:bd} {p:Nat} (hp:p<nQ c):nu c s (aH c p) (2*p)=(s.proc p).timer:=by unfold nu;grind
theorem aa7 {c:bd} {p:Nat} (hp:p<nQ c):nu c s (aH c p) (2*p+1)=(s.proc p).cp:=by unfold nu;grind
theorem Z4 {p:Nat} {Ps:Sl} {ps:List ai} {rest:Sl->Hp->Prop} (m:dD h0 K) (Q:cP K.c) (o:Has h0 ((aJ K pm s g).star (vz Ps ps)) k) (sa:jK K.c s) (td:eH K.c g s) (hp:p<nQ K.c) (c7:ps.length<=1000)
  (hk:∀L y,Has h0 ((aJ K pm s g).star (vz L (ps++ [s.proc p]))) y->rest L y):
 aj none (some (K.p p)) λp3=>
 aD none an k (Addr.add p3 14) λx4=>
 bu prog O2 [(.pointer x4)] af (ab .i64) (λr r1 C=>
 aj none (some pm) λp4=>
 aD none af C (Addr.add p4 10) λG=>
 aj none (some (K.p p)) λp5=>
 aD none (ab .i64) C (Addr.add p5 1) λO=>
 ((aG G.base G.len O)/\aD none an C (sat G.base 1 O) λA=>
 aj none A λp6=>
 aD none an C (Addr.add p6 6) λx8=>
 aa prog xJ [(.int .i64 (p:Int))] (ab .i64) (λr2 i=>
 (((aR i (Addr.add p4 10) [G.v])/\((aR i (Addr.add p5 1) [(.int .i64 O)])/\((aR i (sat G.base 1 O) [(.pointer A)])/\((aR i (Addr.add p6 6) [(.pointer x8)])/\True))))/\bu prog FA [(.pointer x8),(.int .i64 r2)] (ab .i64) aW (λr3 r4 D=>
 aj none (some pm) λp7=>
 aD none af D (Addr.add p7 10) λH=>
 aj none (some (K.p p)) λp8=>
 aD none (ab .i64) D (Addr.add p8 1) λN=>
 ((aG H.base H.len N)/\aD none an D (sat H.base 1 N) λa8=>
 aj none a8 λp9=>
 aD none an D (Addr.add p9 6) λa9=>
 aa prog yO [(.int .i64 (p:Int))] (ab .i64) (λr5 E=>
 (((aR E (Addr.add p7 10) [H.v])/\((aR E (Addr.add p8 1) [(.int .i64 N)])/\((aR E (sat H.base 1 N) [(.pointer a8)])/\((aR E (Addr.add p9 6) [(.pointer a9)])/\True))))/\bu prog FA [(.pointer a9),(.int .i64 r5)] (ab .i64) aW (λr6 r7 w=>
 aj none (some (K.p p)) λb5=>
 aD none (ab .i64) w (Addr.add b5 3) λc1=>
 aj none (some (K.p p)) λb6=>
 aD none (ab .i64) w (Addr.add (Addr.add b6 4) 0) λc2=>
 aj none (some (K.p p)) λb7=>
 aD none xK w (Addr.add (Addr.add b7 4) 1) λf=>
 aj none (some (K.p p)) λb8=>
 aD none aW w (Addr.add b8 13) λc3=>
 bG [(.int .i64 c1),(.int .i64 c2),(.int .i64 f.a0),(.int .i64 f.a1),(.int .i64 f.a2),(.int .i64 f.a3),(.int .i64 f.a4),(.int .i64 f.a5),(.int .i64 f.a6),(.int .i64 f.a7),(.int .i64 r1),(.int .i64 r3),(.bool c3),(.int .i64 r6),r.v] (λa h8=>
 ((True/\True)/\gv 15 136 [(.int .i64 (0:Int)),(.int .i64 (0:Int)),(.int .i64 (0:Int)),(.int .i64 (0:Int)),(.int .i64 (0:Int)),(.int .i64 (0:Int)),(.int .i64 (0:Int)),(.int .i64 (0:Int)),(.int .i64 (0:Int)),(.int .i64 (0:Int)),(.int .i64 (0:Int)),(.int .i64 (0:Int)),(.bool false),(.int .i64 (0:Int)),(.slice none 0 0)] ⟨Ps.base,Ps.len,Ps.cap⟩ ⟨(some a),1,1⟩ (λr8 h9=>
 rest r8 h9) h8)) w) E)) D)) i)) C)) k:=by
 have hi:aH K.c p<nP K.c:=Q.fo;have c6:=Q.procs;have c5:=Q.parts;have sp:=sa.proc p hp;have c4:=sp.len;obtain ⟨X,lA,oM,_,gL⟩:=o.fst;obtain ⟨h1,z,a,l1,hz,oz,oq,put⟩:=oM.nR hp;have b0:z.post=some a:=hz.2.2.2.2.2.2;refine aP (oz.ld (shf:=an) z.post rfl ?_);rw [b0];refine Rh (Td oq ⟨by omega,λl Y=>⟨(sp.dY l Y).waiters,by have:=(sp.dY l Y).values;omega⟩⟩ λS Z o2=> ?_);have o3:Has X ((aJ K pm s g).star (vq S (s.proc p).ae)) Z:=o2.carry λy R=>by
  have i:=put _ _ y R;have e:s.bw p {s.proc p with ae:=(s.proc p).ae,ag:=(s.proc p).ag}=s:=MH
  rwa [e] at i
 obtain ⟨hB,lB,j,_,_⟩:=o3.fst;have mB:=m.mono (Hp.le_trans lA lB);obtain ⟨h2,d,a2,l2,J,u,_⟩:=j.dz hp;obtain ⟨W,I⟩:=mB.uz j hi;obtain ⟨w,A,c8,c0,l7,b3,M,ow,_⟩:=j.iV hi;have V:A.dU=some c0:=b3.2.2.2.2.2;have U:d.part=(aH K.c p:Int):=J.2.1;refine aP (j.eO.ld (shf:=af) K.x.parts rfl ?_);refine aP (u.ld (shf:=ab .i64) d.part rfl ?_);have P:=u.eM (off:=1) (n:=1) (vs:=[.int .i64 d.part]) rfl;rw [U] at P ⊢;refine ⟨W,some (K.q (aH K.c p)),I,?_⟩;refine aP (M.ld (shf:=an) A.dU rfl ?_);refine JU (zw (by omega) ?_);refine ⟨⟨j.eO.eM (n:=1) rfl,P,I,M.eM (n:=1) rfl,trivial⟩,?_⟩;rw [V];refine zsm (N1 ow λb1=> ?_);refine aP (j.eO.ld (shf:=af) K.x.parts rfl ?_);refine aP (u.ld (shf:=ab .i64) d.part rfl ?_);rw [U];refine ⟨W,some (K.q (aH K.c p)),I,?_⟩;refine aP (M.ld (shf:=an) A.dU rfl ?_);refine JV (zx (by omega) ?_);refine ⟨⟨j.eO.eM (n:=1) rfl,P,I,M.eM (n:=1) rfl,trivial⟩,?_⟩;rw [V];refine zsm (N1 ow λb2=> ?_);rw [td _ _ hi,td _ _ hi,Z3 hp,aa7 hp];refine aP (u.ld (shf:=ab .i64) d.state rfl (aP ?_));rw [rY];refine u.ld (shf:=ab .i64) d.jL rfl (aP ?_);rw [rY];refine u.ld (shf:=xK) (rowOf (dW d)) rfl (aP ?_);refine u.ld (shf:=aW) d.bK rfl ?_;have T:gI (dW d)=(s.proc p).core:=J.2.2.2.2.1;have b4:Has X ((aJ K pm s g).star (jI wJ (⟨d.state,d.jL,d.fX,d.fY,d.fZ,d.gg,d.gh,d.gi,d.gk,d.gl,(s.proc p).ag,(s.proc p).timer,d.bK,(s.proc p).cp,S⟩:bh) (s.proc p))) Z:=by refine o3.map λkk F hF=> ?_;refine FP (λ_ h=>h) (λF' h=> ?_) hF;obtain ⟨B,r,nd,e⟩:=h;exact ⟨B,⟨r,J.2.2.2.1,congrArg Core.pc T,congrArg Core.aO T,rfl,rfl,J.2.2.2.2.2.1,rfl⟩,nd,e⟩
 have oF:=(gL _ _ b4).assoc;obtain ⟨hD,lD,oD,_,b9⟩:=oF.snd;have key:=oD.comm.row (cs:=[(.int .i64 d.state),(.int .i64 d.jL),(.int .i64 d.fX),(.int .i64 d.fY),(.int .i64 d.fZ),(.int .i64 d.gg),(.int .i64 d.gh),(.int .i64 d.gi),(.int .i64 d.gk),(.int .i64 d.gl),(.int .i64 (s.proc p).ag),(.int .i64 (s.proc p).timer),(.bool d.bK),(.int .i64 (s.proc p).cp),S.v]) (zero:=[(.int .i64 (0:Int)),(.int .i64 (0:Int)),(.int .i64 (0:Int)),(.int .i64 (0:Int)),(.int .i64 (0:Int)),(.int .i64 (0:Int)),(.int .i64 (0:Int)),(.int .i64 (0:Int)),(.int .i64 (0:Int)),(.int .i64 (0:Int)),(.int .i64 (0:Int)),(.int .i64 (0:Int)),(.bool false),(.int .i64 (0:Int)),(.slice none 0 0)]) (bytes:=136) rfl (λ_=>rfl) (λ_=>rfl) rfl ⟨by omega,by omega⟩ (K:=rest) λL y R=>hk L y (b9 _ _ R);exact λb t hb=>⟨⟨trivial,trivial⟩,key b t hb⟩
end
section
variable {h0 h1 k:Hp} {K:MK} {pm:Addr} {s:MS} {g:Nat->Nat->Int}
theorem LH {a:Type} {f:Nat->a} {t:Int} (h:0<=t):(List.range (t+1).toNat).map f=(List.range t.toNat).map f++ [f t.toNat]:=by rw [show (t+1).toNat=t.toNat+1 by omega,List.range_succ,List.map_append];rfl
theorem MQ {Q:aB->Hp->Prop} (m:dD h0 K) (u:cP K.c) (o:Has h0 (aJ K pm s g) k) (O:jK K.c s) (td:eH K.c g s)
  (V:∀r f,Has h0 ((aJ K pm s g).star (jI Xh r (s.list K.c))) f->Q r f):Fy prog (some pm) Q k:=by
 unfold Fy;have b5:=u.procs;have b3:=u.parts;have b4:=m.rA;have b6:=m.nS;refine aP (o.eO.ld (shf:=ab .i64) s.tick rfl ?_);refine aP (o.eO.ld (shf:=af) K.x.parts rfl ?_);have b0:Has k (xT (⟨none,0,0⟩:Sl) ([]:List cR)) k:=Has.nI (okQ:=xt) (Hp.le_refl _);refine bq.intro (λ(t:Int) (st:aB) f=>0<=t/\t<=(nP K.c:Int)/\st.di=s.tick/\st.aC=⟨none,0,0⟩/\Has h0 ((aJ K pm s g).star (xT st.bt ((List.range t.toNat).map s.part))) f) (λt _ _=>(nP K.c-t).toNat) ⟨by omega,by omega,rfl,rfl,by simpa using o.beside b0⟩ ?_;rintro t st L ⟨t0,t1,H,E,v⟩;by_cases h:t<(nP K.c:Int)
 ·rw [if_pos (fT)];have hi:t.toNat<nP K.c:=by omega
  have y:((t.toNat:Nat):Int)=t:=by omega
  obtain ⟨i,l⟩:=m.uz (Has.left v) hi;rw [y] at i l;refine ⟨i,some (K.q t.toNat),l,?_⟩;refine Z2 (Ps:=st.bt) (ps:=(List.range t.toNat).map s.part) u v O hi (by rw [List.length_map,List.length_range];omega) λY f z=> ?_;rw [aI];refine ⟨⟨by omega,by omega,H,E,?_⟩,by omega⟩;rw [LH t0];exact z
 ·rw [if_neg (λe=>h (by have:=of_decide_eq_true e;omega))];have y:t.toNat=nP K.c:=by omega
  rw [y] at v;obtain ⟨J,Z,N,hP,b2⟩:=v.fst;have M:=m.mono Z;refine aP (N.eO.ld (shf:=af) K.x.procs rfl ?_);have b1:Has L (vz (⟨none,0,0⟩:Sl) ([]:List ai)) L:=Has.nI (okQ:=wJ) (Hp.le_refl _);refine bq.intro (λ(j:Int) (s1:aB) f=>0<=j/\j<=(nQ K.c:Int)/\s1.di=s.tick/\s1.bt=st.bt/\Has J ((aJ K pm s g).star (vz s1.aC ((List.range j.toNat).map s.proc))) f) (λj _ _=>(nQ K.c-j).toNat) ⟨by omega,by omega,H,rfl,by rw [E];simpa using N.beside b1⟩ ?_;rintro j s1 X ⟨W,j1,I,G,w⟩;by_cases U:j<(nQ K.c:Int)
  ·rw [if_pos (fT)];have hi:j.toNat<nQ K.c:=by omega
   have n:((j.toNat:Nat):Int)=j:=by omega
   obtain ⟨i,l⟩:=M.ptr (Has.left w) hi;rw [n] at i l;refine ⟨i,some (K.p j.toNat),l,?_⟩;have key:=Z4 (Ps:=s1.aC) (ps:=(List.range j.toNat).map s.proc) (rest:=λr8 P=>(0<=yw (j+1)/\yw (j+1)<=(nQ K.c:Int)/\s1.di=s.tick/\s1.bt=st.bt/\Has J ((aJ K pm s g).star (vz r8 ((List.range (yw (j+1)).toNat).map s.proc))) P)/\(nQ K.c-yw (j+1)).toNat<(nQ K.c-j).toNat) M u w O td hi (by rw [List.length_map,List.length_range];omega) λY f z=>by rw [aI];refine ⟨⟨by omega,by omega,I,G,?_⟩,by omega⟩;rw [LH W];exact z
   rw [n] at key;exact key
  ·rw [if_neg (λe=>U (by have:=of_decide_eq_true e;omega))];have n:j.toNat=nQ K.c:=by omega
   rw [n] at w;refine V s1 X ?_;have o3:=(b2 _ _ w).assoc;refine o3.map λkk F R=> ?_;refine FP (λ_ h=>h) (λF' h=> ?_) R;obtain ⟨F1,F2,e,d,⟨B,r2,a9,D⟩,⟨A,r1,a8,C⟩⟩:=h;refine ⟨A++B,⟨A,B,rfl,by rw [G];exact r1,r2,I⟩,?_,λb=> ?_⟩
   ·rw [List.nodup_append];exact ⟨a8,a9,λa S b hb T=>by subst T;exact d a ((D a).2 hb) ((C a).2 S)⟩
   ·rw [e b,C b,D b,List.mem_append];exact ⟨λh=>h.symm,λh=>h.symm⟩
end
theorem yg {b c:Type} {R:b->c->Hp->List Nat->Prop} (ok:iA R):iA (oJ R):=⟨λo a=>oJ.same ok o a,λo=>oJ.known ok o⟩
abbrev eQ :bO->List Value:=λx=>ba (bV.enc x)
section
variable {α:Type} {h:Hp} {sz:Nat} {enc:α->List Value} {l:Sl} {xs:List α}
theorem VU {b o:Nat} {i:Int}:sat (some ⟨b,o,none⟩) sz i=⟨b,o+i.toNat*sz,none⟩:=by unfold sat;rw [Option.getD_some,km]
theorem db.P7 {F:List Nat} (o:db h sz enc l xs F) (e:∀x,(enc x).length=sz) {i:Nat} {x d:α} (p:xs[i]? =some x) {off:Nat} {new:List Value} (L:off+new.length<=sz) (y:enc d=(enc x).take off++new++(enc x).drop (off+new.length))
  {K:Hp->Prop} (v:∀c,db c sz enc l (xs.set i d) F->Mv F h F c->K c):cl h ((sat l.base sz (i:Int)).add off) new K:=by
 have hi:i<xs.length:=by grind
 obtain ⟨C,q,D⟩:=o;rcases D with ⟨_,G,_⟩ | ⟨b,a,g,rfl,A,t,f⟩
 ·omega
 ·rw [g,VU,km,show ((i:Int)).toNat=i from rfl,Nat.zero_add];have I:i*sz+sz<=l.len*sz:=by have:=Nat.mul_le_mul_right sz (show i+1<=l.len by omega);grind
  have J:l.len*sz<=l.cap*sz:=Nat.mul_le_mul_right sz q;refine uS A (by rw [t];omega) λc B z=> ?_;refine v c ⟨by simp [C],q,.inr ⟨b,_,g,rfl,z,?_,?_⟩⟩ B
  ·grind
  ·have t1:a.take (i*sz)=(xs.take i).flatMap enc:=by rw [zJ e,<-f,List.take_take];congr 1;omega
   have t2:(a.drop (i*sz+sz)).take (l.len*sz-(i*sz+sz))=(xs.drop (i+1)).flatMap enc:=by rw [zH e,<-f,Nat.add_mul,Nat.one_mul,List.drop_take]
   have E:(a.drop (i*sz)).take sz=enc x:=by
    have j:(xs.drop i).flatMap enc=enc x++(xs.drop (i+1)).flatMap enc:=by rw [List.drop_eq_getElem_cons hi,List.flatMap_cons];rw [List.getElem?_eq_getElem hi] at p;rw [Option.some.inj p]
    have u:(xs.drop i).flatMap enc=(a.drop (i*sz)).take (l.len*sz-i*sz):=by rw [zH e,<-f,List.drop_take]
    rw [u] at j;have H:=congrArg (List.take sz) j;grind
   have k:a=a.take (i*sz)++(enc x++a.drop (i*sz+sz)):=by rw [<-E,<-List.drop_drop,List.take_append_drop,List.take_append_drop]
   have m:(a.take (i*sz)).length=i*sz:=by rw [List.length_take];omega
   have n:(enc x).length=sz:=e x;have r:a.take (i*sz+off)=a.take (i*sz)++(enc x).take off:=by
    conv=>lhs;rw [k]
    rw [List.take_append,m,List.take_of_length_le (by omega),List.take_append,n,show i*sz+off-i*sz=off by omega,show off-sz=0 by omega,List.take_zero,List.append_nil]
   have s:a.drop (i*sz+off+new.length)=(enc x).drop (off+new.length)++a.drop (i*sz+sz):=by
    conv=>lhs;rw [k]
    rw [List.drop_append,m,List.drop_eq_nil_of_le (by omega),List.nil_append,List.drop_append,n,show i*sz+off+new.length-i*sz=off+new.length by omega,show off+new.length-sz=0 by omega,List.drop_zero]
   rw [r,s,show a.take (i*sz)++(enc x).take off++new++((enc x).drop (off+new.length)++a.drop (i*sz+sz))=(a.take (i*sz)++enc d)++a.drop (i*sz+sz) by rw [y];simp];rw [DH d hi];have w:(a.take (i*sz)++enc d).length=i*sz+sz:=by grind
   rw [List.take_append,w,t2,List.take_of_length_le (by omega),t1];simp
end
section
variable {h0 k:Hp}
theorem Has.yj {d:Type} {sz:Nat} {enc:d->List Value} {l:Sl} {c:List d} (o:Has h0 (fS sz enc l c) k) (n:∀x,(enc x).length=sz) {i:Nat} {x x':d} (u:c[i]? =some x) {off:Nat} {new:List Value} (t:off+new.length<=sz) (s:enc x'=(enc x).take off++new++(enc x).drop (off+new.length))
  {K:Hp->Prop} (q:∀a,Has h0 (fS sz enc l (c.set i x')) a->K a):cl k ((sat l.base sz (i:Int)).add off) new K:=by
 obtain ⟨r,F,⟨B,h,e⟩,p⟩:=o;refine h.P7 n u t s λa j m=>q a ⟨λb f g=>m.cT b f (r b f g) λhb=> ?_,F,⟨B,j,e⟩,p⟩;grind
theorem Has.nL {b:Type} {sz:Nat} {enc:b->List Value} {l:Sl} {a:List b} (o:Has h0 (fS sz enc l a) k) (c:∀x,(enc x).length=sz):Rw k sz enc l a:=by obtain ⟨f,F,⟨B,h,e⟩,d⟩:=o;exact h.rw c
theorem Has.rowsOf {m:Type} {sh:Shape} {sz:Nat} {Q:sh.T->m->Hp->List Nat->Prop} {okQ:iA Q} {l:Sl} {c:List sh.T} {j:List m} (o:Has h0 ((fS sz (λx=>ba (sh.enc x)) l c).star (jI (yg okQ) c j)) k):Has h0 (jI (cf.ok (sh:=sh) (sz:=sz) okQ) l j) k:=by
 refine o.map λw F h=> ?_;obtain ⟨u,v,e,d,⟨f,i,n⟩,⟨g,t,s,p⟩⟩:=h;refine ⟨f++g,⟨c,f,g,rfl,i,t⟩,?_,λb=> ?_⟩
 ·rw [List.nodup_append];exact ⟨i.nodup,s,λa q b hb r=>by subst r;exact d a ((n a).2 q) ((p a).2 hb)⟩
 grind
theorem TM {x:aw} {c:bd} {Q:aw->Hp->Prop} (a:eo k x c) (hl:c.labels.length<=1000) (ht:c.table.length<=1000) (hp:c.procs.length<=1000) (hc:∀y∈c.procs,y.code.length<=1000)
  (hq:∀r m,Has k ((jI v8 r.bg c.labels).star ((jI lO r.Table c.table).star (jI nn r.aC c.procs))) m->r.Fuel=c.fuel->r.gy=c.lane->r.bR=c.ak->r.Log=c.log->Q r m):ZP prog x Q k:=by
 unfold ZP;refine zhf ?_;unfold OB;refine xO (enc:=λx:Int=>ba ((ab .u64).enc x)) (bW.cm 22 yu rfl) a.labels (by decide) (λ_=>rfl) (λ_=>rfl) rfl ⟨by omega,by omega⟩ λll I l1 n1=> ?_;refine ⟨⟨trivial,trivial,trivial⟩,?_⟩;have a1:=a.mono l1;refine IF ?_;unfold A6;refine xO (enc:=λx:Int=>ba ((ab .i64).enc x)) (bW.cm 23 rH rfl) a1.table (by decide) (λ_=>rfl) (λ_=>rfl) rfl ⟨by omega,by omega⟩ λlt w l2 n2=> ?_;refine ⟨⟨trivial,trivial⟩,?_⟩;have a2:=a1.mono l2;obtain ⟨g,b2,E⟩:=a2.procs;have b1:g.length=c.procs.length:=E.len;refine znd ?_;unfold zgv;refine xO (enc:=eQ) (bW.cm 24 BV rfl) b2 (by decide) (λ_=>rfl) (λ_=>rfl) rfl ⟨by omega,by omega⟩ λlp J l3 L=> ?_;have b8:=(L.nL (λ_=>rfl)).1;have nil:Has J (jI (yg xq) ([]:List bO) ([]:List eu)) J:=Has.sE (B:=[]) (Hp.le_refl _) rfl .nil λ_ h=>by cases h
 refine au.intro (λ(t:Int) m=>0<=t/\t<=(g.length:Int)/\∃j:List bO,j.length=t.toNat/\Has w ((fS 2 eQ lp (j++g.drop t.toNat)).star (jI (yg xq) j (c.procs.take t.toNat))) m) (λt _=>(g.length-t).toNat) ⟨by omega,by omega,[],rfl,by simpa using L.beside nil⟩ ?_;rintro t m ⟨O,t1,j,C,o⟩;by_cases h:t<(g.length:Int)
 ·rw [if_pos (fT)];have hi:t.toNat<g.length:=by omega
  have b6:((t.toNat:Nat):Int)=t:=by omega
  obtain ⟨h5,l5,oO,_,gu⟩:=o.fst;have s:(j++g.drop t.toNat)[t.toNat]? =some g[t.toNat]:=by grind
  obtain ⟨pc,b0,A,u,G,a8⟩:=E.get (i:=t.toNat) (List.getElem?_eq_getElem hi);generalize g[t.toNat]=y at s G A;have b7:u.length<=1000:=by grind
  refine Rs.get (sh:=bV) (oO.nL (λ_=>rfl)) (λ_=>rfl) (by omega) O (by rw [List.length_append,List.length_drop];omega) λ(y':bO) H=> ?_;rw [s] at H;cases H;refine zox ?_;unfold zhl;refine xO (enc:=λx=>ba (aU.enc x)) (bW.cm 45 BW rfl) (Rw.mono o.le G) (by decide) (λ_=>rfl) (λ_=>rfl) rfl ⟨by omega,by omega⟩ λn k6 l6 n6=> ?_;have V:∀l:List aZ,dB (λx p=>bE x=p) l (l.map bE):=λl=>by
   induction l with
   | nil=>trivial
   | cons a r ih=>exact ⟨rfl,ih⟩
  have oI:Has m (jI v7 n pc.code) k6:=by rw [<-a8];obtain ⟨a9,F,⟨B,D,e⟩,hf⟩:=n6;exact Has.sE a9 ⟨u,B,[],by simp,D,EC (V u)⟩ D.nodup λb hb=>hf b ((e b).2 hb)
  have oA:=(o.beside oI).assoc;obtain ⟨h7,l7,N,_,b5⟩:=oA.fst;have X:=(Rs.get (sh:=bV) (K:=λ_=>True) (N.nL (λ_=>rfl)) (λ_=>rfl) (by omega) O (by rw [List.length_append,List.length_drop];omega) λ_ _=>trivial).1;refine ⟨⟨trivial,trivial⟩,X,?_⟩;have key:=N.yj (i:=t.toNat) (x':=(⟨y.Part,n⟩:bO)) (off:=1) (new:=[n.v]) (λ_=>rfl) s (by simp) rfl
   (K:=λU=>(0<=yw (t+1)/\yw (t+1)<=(g.length:Int)/\∃j:List bO,j.length=(yw (t+1)).toNat/\Has w ((fS 2 eQ lp (j++g.drop (yw (t+1)).toNat)).star (jI (yg xq) j (c.procs.take (yw (t+1)).toNat))) U)/\(g.length-yw (t+1)).toNat<(g.length-t).toNat) λk8 M=> ?_
  ·grind
  ·rw [aI];refine ⟨⟨by omega,by omega,j++ [⟨y.Part,n⟩],by rw [List.length_append,C,List.length_singleton];omega,?_⟩,by omega⟩;have q:(t+1).toNat=t.toNat+1:=by omega
   have S:(j++g.drop t.toNat).set t.toNat (⟨y.Part,n⟩:bO)=(j++ [⟨y.Part,n⟩])++g.drop (t.toNat+1):=by rw [List.set_append_right _ _ (by omega),C,Nat.sub_self,List.drop_eq_getElem_cons hi,List.set_cons_zero,List.append_assoc];rfl
   rw [S] at M;have T:c.procs.take (t.toNat+1)=c.procs.take t.toNat++ [pc]:=by rw [List.take_add_one,b0];rfl
   rw [q,T];refine (b5 _ _ M).map λkk F W=>FP (λ_ h=>h) (λF' h=> ?_) W;obtain ⟨F1,F2,e,d,⟨P,r1,b3,f1⟩,⟨z,r2,b4,f2⟩⟩:=h;refine ⟨P++z,oJ.snoc (R:=qN) (a:=(⟨y.Part,n⟩:bO)) (b:=pc) (B':=z) ⟨A,r2⟩ r1,?_,λb=> ?_⟩
   ·rw [List.nodup_append];exact ⟨b3,b4,λa Y b hb Z=>by subst Z;exact d a ((f1 a).2 Y) ((f2 a).2 hb)⟩
   grind
 ·rw [if_neg (λe=>h (by grind))];have q:t.toNat=g.length:=by omega
  rw [q,List.drop_length,List.append_nil,b1,List.take_length] at o;have o1:=o.rowsOf (sh:=bV) (okQ:=xq);have oU:Has k (jI v8 ll c.labels) I:=n1.jC (f:=λx=>x) (λ_=>rfl) λ_=>rfl;have oI:Has I (jI lO lt c.table) w:=n2.jC (f:=λx=>x) (λ_=>rfl) λ_=>rfl;exact hq _ m ((oU.beside oI).beside o1).assoc a.fuel a.lane a.ak a.log
end
section
variable {h0 k:Hp} {K:MK} {pm:Addr} {s:MS} {f:Nat->Nat->Int}
theorem Gd {r:aw} {c:bd} (o:Has h0 ((jI v8 r.bg c.labels).star ((jI lO r.Table c.table).star (jI nn r.aC c.procs))) k) (q:r.Fuel=c.fuel) (t:r.gy=c.lane) (u:r.bR=c.ak) (v:r.Log=c.log):Has h0 (jI Gx r c) k:=by
 refine o.map λG F h=> ?_;obtain ⟨B,C,e,d,⟨l,z,w,f1⟩,⟨D,E,i,p,⟨m,r2,x,f2⟩,⟨n,A,y,f3⟩⟩⟩:=h;refine ⟨l++(m++n),⟨l,m,n,rfl,z,r2,A,q,t,u,v⟩,?_,λb=> ?_⟩
 ·rw [List.nodup_append,List.nodup_append];refine ⟨w,⟨x,y,λa g b hb j=> ?_⟩,λa g b hb j=> ?_⟩
  ·subst j;exact p a ((f2 a).2 g) ((f3 a).2 hb)
  ·subst j;rcases List.mem_append.1 hb with hb | hb
   ·exact d a ((f1 a).2 g) ((i a).2 (.inl ((f2 a).2 hb)))
   ·exact d a ((f1 a).2 g) ((i a).2 (.inr ((f3 a).2 hb)))
 ·rw [e b,i b,f1 b,f2 b,f3 b,List.mem_append,List.mem_append]
end
def q9 (a c k:Hp):Hp:=λb=>match a b with | some d=>some d | none=>if c b=none then k b else none
theorem LI {a d k:Hp} {b:Nat} {c:Obj} (e:a b=some c):q9 a d k b=some c:=by unfold q9;rw [e]
theorem Dk {a c k:Hp} {b:Nat} (e:a b=none):q9 a c k b=if c b=none then k b else none:=by unfold q9;rw [e]
theorem Q5 {P:Program} {g:FuncId} {args:List Value} {l K:Value->Hp->Prop} {f k:Hp} {A:dR} (o:Has f A k) (q:s9 P g args l f) (r:∀v c p,l v c->Has c A p->K v p):s9 P g args K k:=by
 intro w h;refine (q w (h.mono o.le)).mono ?_;rintro e y ⟨v,c,rfl,t,st⟩;obtain ⟨s,F,a,m⟩:=o;have key:∀b,F b->c b=none/\y.heap[b]? =w.heap[b]?:=λb hb=>by
  cases e:k b with
  | none=>exact absurd e (A.known a b hb)
  | some j=>have:=st.cT b (h.lt e) (m b hb);grind
 refine ⟨v,q9 c f k,rfl,r v c _ t ⟨λb j e=>LI e,F,A.same a λb hb=> ?_,λb hb=>(key b hb).1⟩,?_⟩
 ·rw [Dk (key b hb).1,if_pos (m b hb)]
 ·refine ⟨λb j e=> ?_,st.size,λb hb n=> ?_,st.os,st.tape,st.output⟩
  ·cases i:c b with
   | some z=>rw [LI i] at e;cases e;exact st.sub b _ i
   | none=>
    rw [Dk i] at e;by_cases d:f b=none
    ·rw [if_pos d] at e;rw [(st.cT b (h.lt e) d).1];exact h b j e
    grind
  ·have d:f b=none:=tY s n;obtain ⟨u,x⟩:=st.cT b hb d;exact ⟨u,by rw [Dk x,if_pos d];exact n⟩
theorem yL {P:Program} {g:FuncId} {args:List Value} {sh:Shape} {K0 K:sh.T->Hp->Prop} {c k:Hp} {A:dR} (o:Has c A k) (d:aa P g args sh K0 c) (f:∀x a b,K0 x a->Has a A b->K x b):aa P g args sh K k:=
 Q5 o d λ_ a b ⟨x,e,h⟩ i=>⟨x,e,f x a b h i⟩
theorem LJ {P:Program} {g:FuncId} {args:List Value} {s1 s2 s3:Shape} {K0 K:s1.T->s2.T->s3.T->Hp->Prop} {c k:Hp} {A:dR} (o:Has c A k) (d:kT P g args s1 s2 s3 K0 c) (e:∀x y z a b,K0 x y z a->Has a A b->K x y z b):kT P g args s1 s2 s3 K k:=
 yL o d λp a b h f=>e p.1 p.2.1 p.2.2 a b h f
theorem zW {c:bd} (h:(fq c).1=0):cP c:=by obtain ⟨e,f,g,j,k,l,d,m,n,p,b⟩:=jm.1 h;obtain ⟨o,q,r⟩:=iG.1 e;have:=List.length_pos_iff.2 o;have:=List.length_pos_iff.2 n;refine ⟨⟨by unfold nP;omega,by unfold nP;omega⟩,⟨f,g,λi hi=>by have:=j i hi;unfold nP;omega⟩,k,l,d,m,⟨by unfold nQ;omega,by unfold nQ;omega⟩,λy a=>by have:=(b y a).1;unfold nP;omega,λy a=>(Df d).1 (b y a).2⟩
section
variable {h0 k:Hp}
theorem Has.GK {a e:Type} {sz:Nat} {enc:a->List Value} {c:e->List Value} {l:Sl} {d:List a} (f:a->e) (t:∀x,enc x=c (f x)) (o:Has h0 (dA sz enc l d) k):Has h0 (dA sz c l (d.map f)) k:=by refine o.map λu F h=> ?_;obtain ⟨s,q,r⟩:=h;refine ⟨by grind,q,r.imp id ?_⟩;rintro ⟨b,off,g,i,j,m,n,p⟩;refine ⟨b,off,g,i,j,m,n,by rw [p,List.flatMap_map];congr 1;grind⟩
theorem Z5 {h:Hp} {t:Sl} {a:List Int} {n:Int} {Q:Option Addr->Int->Int->Hp->Prop} (r:Is h t a) (E:1<=n) (G:n<=8) (A:a≠ []) (I:a.length<=64) (H:∀x∈a,0<=x/\x<n)
  (C:∀p i s c,h<=c->aR c p [s.v,.int .i64 n]->Is c s a->Q (some p) 0 i c):MW prog t n Q h:=by
 unfold MW;have J:=r.1;have L:0<a.length:=List.length_pos_iff.2 A;intro b ty z;have l:=lx (o:=.cells (#[Value.int .i64 n]) ty (0,0)) z;have d:aR (h.set b (.cells (#[Value.int .i64 n]) ty (0,0))) ⟨b,0,none⟩ [.int .i64 n]:=Ab (cs:=[Value.int .i64 n]);refine eB (sh:=ab .i64) n d ?_;refine ⟨n,λ_=>d,?_⟩;refine aE (aE ?_);rw [if_neg (by simp;omega),if_neg (by simp;omega)];have y:(a.any λx=>decide (x<0) || decide (x>=n))=false:=by grind
 refine SI (f:=⟨LN, #[], #[.pointer (some ⟨b,0,none⟩)]⟩) (Ca (p:=λx=>decide (x<0) || decide (x>=n)) (Rw.mono l r) (by omega) (λx _ k K m w=> ?_) λi c j hi=> ?_)
 ·refine wT (g:=LN) rfl (zzi ?_);unfold zyh;refine ⟨n,λ_=>nr m d,aE (w k m)⟩
 ·dsimp only;rw [y] at hi;rw [if_neg (λe=>by grind)];refine eB (sh:=ab .i64) n (nr j d) ?_;refine IF ?_;unfold A6;refine xO (enc:=λx:Int=>ba ((ab .i64).enc x)) (bW.cm 23 rH rfl) (Rw.mono (Hp.le_trans l j) r) (by decide) (λ_=>rfl) (λ_=>rfl) rfl ⟨by omega,by omega⟩ λout F q B=> ?_;refine ⟨⟨nr (Hp.le_trans j q) d,trivial⟩,?_⟩;intro D t2 u;exact C _ _ out _ (Hp.le_trans (Hp.le_trans l j) (Hp.le_trans q (lx u))) (Ab (cs:=[out.v,.int .i64 n])) (Rw.mono (lx u) (B.nL λ_=>rfl))
abbrev uk (R F G S T U:dR):dR:=(R.star (F.star G)).star (S.star (T.star U))
variable {R F G S T U:dR}
theorem Has.sR (o:Has h0 (uk R F G S T U) k):∃d,h0<=d/\Has d R k/\∀e f,Has d e f->Has h0 (uk e F G S T U) f:=by obtain ⟨d,a,b,_,c⟩:=o.fst;obtain ⟨i,a2,g,h⟩:=b.f1;exact ⟨i,Hp.le_trans a a2,g,λ_ _ j=>c _ _ (h _ _ j)⟩
theorem Has.sF (o:Has h0 (uk R F G S T U) k):∃d,h0<=d/\Has d F k/\∀e f,Has d e f->Has h0 (uk R e G S T U) f:=by obtain ⟨d,a,b,_,c⟩:=o.fst;obtain ⟨i,a2,g,h⟩:=b.f2;exact ⟨i,Hp.le_trans a a2,g,λ_ _ j=>c _ _ (h _ _ j)⟩
theorem Has.sG (o:Has h0 (uk R F G S T U) k):∃d,h0<=d/\Has d G k/\∀e f,Has d e f->Has h0 (uk R F e S T U) f:=by obtain ⟨d,a,b,_,c⟩:=o.fst;obtain ⟨i,a2,g,h⟩:=b.f3;exact ⟨i,Hp.le_trans a a2,g,λ_ _ j=>c _ _ (h _ _ j)⟩
theorem Has.sS (o:Has h0 (uk R F G S T U) k):∃d,h0<=d/\Has d S k/\∀e f,Has d e f->Has h0 (uk R F G e T U) f:=by obtain ⟨d,a,b,_,c⟩:=o.snd;obtain ⟨i,a2,g,h⟩:=b.f1;exact ⟨i,Hp.le_trans a a2,g,λ_ _ j=>c _ _ (h _ _ j)⟩
theorem Has.sT (o:Has h0 (uk R F G S T U) k):∃d,h0<=d/\Has d T k/\∀e f,Has d e f->Has h0 (uk R F G S e U) f:=by obtain ⟨d,a,b,_,c⟩:=o.snd;obtain ⟨i,a2,g,h⟩:=b.f2;exact ⟨i,Hp.le_trans a a2,g,λ_ _ j=>c _ _ (h _ _ j)⟩
theorem Has.sU (o:Has h0 (uk R F G S T U) k):∃d,h0<=d/\Has d U k/\∀e f,Has d e f->Has h0 (uk R F G S T e) f:=by obtain ⟨d,a,b,_,c⟩:=o.snd;obtain ⟨i,a2,g,h⟩:=b.f3;exact ⟨i,Hp.le_trans a a2,g,λ_ _ j=>c _ _ (h _ _ j)⟩
def ku (q:Addr) (own:Sl) (n:Nat) (y:cR) (b:Nat->Int):dR:=.some_ λx:bm=>.some_ λlp:Addr=>.some_ λa:Addr=>
 ((dJ xI q x).star ((dA 3 Gg x.log y.log).star ((nb lp y.av y.ah).star (s8 a b (2*n))))).star (.fact (x.procs=own/\x.ag=y.ag/\x.lost=y.lost/\x.forbidden=y.forbidden/\x.ak=some lp/\x.dU=some a))
def pM (q:Addr) (p i:Nat) (code:Sl) (room:Int) (y:ai):dR:=.some_ λz:aM=>.some_ λa:Addr=>
 ((dJ bz q z).star (dT a room y.ae y.ag)).star (.fact (z.dI=(p:Int)/\z.part=(i:Int)/\z.code=code/\z.state=y.state/\gI (dW z)=y.core/\z.bK=y.bK/\z.post=some a))
theorem Has.BL {q lp a:Addr} {x:bm} {n:Nat} {y:cR} {b:Nat->Int} (o:Has h0 ((((nb lp y.av y.ah).star (dA 3 Gg x.log y.log)).star (s8 a b (2*n))).star (dJ xI q x)) k)
  (e:x.ag=y.ag/\x.lost=y.lost/\x.forbidden=y.forbidden/\x.ak=some lp/\x.dU=some a):Has h0 (ku q x.procs n y b) k:=by
 refine Has.ex.2 ⟨x,Has.ex.2 ⟨lp,Has.ex.2 ⟨a,Has.fB ?_ ⟨rfl,e⟩⟩⟩⟩;refine o.map λc F h=> ?_;exact FP (λ_ h=>h) (λ_ h=>yJ (FP (λ_ h=>FO h) (λ_ h=>h) h)) (FO h)
theorem Has.BM {q a:Addr} {z:aM} {room:Int} {p i:Nat} {y:ai} (o:Has h0 ((dT a room y.ae y.ag).star (dJ bz q z)) k)
  (e:z.dI=(p:Int)/\z.part=(i:Int)/\z.state=y.state/\gI (dW z)=y.core/\z.bK=y.bK/\z.post=some a):Has h0 (pM q p i z.code room y) k:=
 Has.ex.2 ⟨z,Has.ex.2 ⟨a,Has.fB o.comm ⟨e.1,e.2.1,rfl,e.2.2⟩⟩⟩
theorem MR {q:Addr} {own:Sl} {n id:Nat} {y:cR} {a:Nat->Int} {v:Int} {g:FuncId} {args:List Value} {K:Hp->Prop} (o:Has h0 (ku q own n y a) k) (B:n<=1000) (hid:id<2*n) (C:a id=0) (hv:0<=v)
  (m:∀ {Q:Int->Hp->Prop},Q (id:Int) k->aa prog g args (ab .i64) Q k) (c:∀b,Has h0 (ku q own n y (dd a id v)) b->K b):
  (if (decide (v>(0:Int)))=true then
 aj none (some q) λf=>
 aD none an k (Addr.add f 6) λi=>
 aa prog g args (ab .i64) (λu d=>
 (((aR d (Addr.add f 6) [(.pointer i)])/\(True/\True))/\aa prog xH [(.pointer i),(.int .i64 u),(.int .i64 v)] (ab .i64) (λH l=>
 K l) d)) k
 else
 K k):=by
 by_cases h:v>0
 ·rw [if_pos (decide_eq_true h)];obtain ⟨x,o⟩:=Has.ex.1 o;obtain ⟨lp,o⟩:=Has.ex.1 o;obtain ⟨w,o⟩:=Has.ex.1 o;obtain ⟨o,e⟩:=o.jP;refine aP ((Has.left o).ld (shf:=an) x.dU rfl ?_);refine m ⟨⟨(Has.left o).eM (off:=6) (n:=1) (vs:=[.pointer x.dU]) rfl,trivial,trivial⟩,?_⟩;obtain ⟨z,D,r,_,put⟩:=o.snd;obtain ⟨A,E,s,t⟩:=r.f3;rw [e.2.2.2.2.2];refine WU (EG s (by omega) hid h λb p=>c b ?_);exact Has.ex.2 ⟨x,Has.ex.2 ⟨lp,Has.ex.2 ⟨w,(put _ _ (t _ _ p)).fB e⟩⟩⟩
 ·rw [if_neg (by simpa using h)];have:v=0:=by omega
  subst this;rw [show dd a id 0=a from funext λj=>by unfold dd;split<;>simp_all] at c;exact c k o
def AT (c:bd) (i j:Nat):List Nat:=(List.range j).filter λq=>decide (aH c q=i)
theorem Od {c:bd} {i j:Nat}:AT c i (j+1)=if aH c j=i then AT c i j++ [j] else AT c i j:=by unfold AT;rw [List.range_succ,List.filter_append];grind
end
structure xR (c:bd) (t:fe):Prop where
 parts:t.parts.length=nP c
 procs:t.procs.length=nQ c
 part:∀x∈t.parts,KU x.av x.ah/\x.log.length<=4096
 proc:∀x∈t.procs,x.ae.length=nP c+1/\(0<=x.ag/\x.ag<x.ae.length)/\(∀l∈x.ae,PM c.lane l)/\0<=x.timer/\0<=x.cp
section
variable {h0 h1 k:Hp} {c:bd} {t:fe}
abbrev Aw (c:bd) (t:fe) (g:List Addr) (own:Nat->Sl) (m:Nat->Nat->Int) (i:Nat):dR:=dR.first (λi=>ku (g.getD i a0) (own i) (nQ c) (t.parts.getD i mX) (m i)) i
abbrev Dh (c:bd) (t:fe) (u:List Addr) (code:Nat->Sl) (j:Nat):dR:=dR.first (λp=>pM (u.getD p a0) p (aH c p) (code p) c.lane (t.procs.getD p jB)) j
abbrev wc (c:bd) (own:Nat->Sl) (j i:Nat):dR:=dR.first (λi=>dA 1 fC (own i) ((AT c i j).map λ(q:Nat)=>(q:Int))) i
abbrev lY (c:bd) (t:fe) (pm:Addr) (x:aT) (g u:List Addr) (own code:Nat->Sl) (i j:Nat) (m:Nat->Nat->Int):dR:=
 uk (dJ JQ pm x) (Aw c t g own m i) (Dh c t u code j) (dA 1 eP x.parts g) (dA 1 eP x.procs u) (wc c own j i)
def uX (x:aT) (l:Sl):aT:={x with parts:=l}
def pA (x:aT) (l:Sl):aT:={x with procs:=l}
variable {pm:Addr} {x:aT} {g u:List Addr} {own code:Nat->Sl} {m:Nat->Nat->Int}
theorem Oe {b:Type} {l:List b} {a d:b} {i:Nat} (h:i=l.length):(l++ [a]).getD i d=a:=by grind
theorem Q6 {s:aB} {i:Nat} {Q:Hp->Prop} (b:cW h0 s t) (v:xR c t) (mc:cP c) (hi:i<nP c) (hp:g.length=i) (ex:x.procs=⟨none,0,0⟩)
  (o:Has h0 (lY c t pm x g [] (λ_=>⟨none,0,0⟩) code i 0 (λ_ _=>0)) k)
  (X:∀l a K,Has h0 (lY c t pm (uX x l) (g++ [a]) [] (λ_=>⟨none,0,0⟩) code (i+1) 0 (λ_ _=>0)) K->Q K):
  ((aG s.bt.base s.bt.len (i:Int))/\aD none bQ k (sat s.bt.base 6 (i:Int)) λx=>
 bu prog PH [x.bN.v,x.bI.v] an (ab .i64) (λr7 r8 F=>
 aj none (some pm) λd=>
 aD none af F (Addr.add d 10) λe=>
 aa prog IB [x.Log.v] af (λr9 G=>
 (((aR G (Addr.add d 10) [e.v])/\(True/\(True/\(True/\True))))/\aa prog Cw [] an (λb7 C=>
 (((aR C (Addr.add d 10) [e.v])/\(True/\(True/\(True/\True))))/\bG [(.slice none 0 0),(.int .i64 x.Cursor),r9.v,(.int .i64 x.lJ),(.int .i64 x.eD),(.pointer r7),(.pointer b7)] (λa1 D=>
 (((aR D (Addr.add d 10) [e.v])/\True)/\bG [(.pointer (some a1))] (λa2 E=>
 (((aR E (Addr.add d 10) [e.v])/\True)/\gv 1 8 [(.pointer none)] e ⟨(some a2),1,1⟩ (λb8 U=>
 aj none (some pm) λp3=>
 cl U (Addr.add p3 10) [b8.v] (λV=>
 Q V)) E)) D)) C)) G)) F) k):=by
 obtain ⟨ps,Z,H⟩:=b.parts;have c1:=H.len;have e1:=v.parts;have c0:=mc.parts;refine kV (sh:=bQ) (Rw.mono o.le Z) λ(y:bS) I=> ?_;rw [Int.toNat_natCast] at I;obtain ⟨z,J,f⟩:=H.get I;have b0:=List.mem_of_getElem? J;obtain ⟨lv,h⟩:=v.part z b0;have r:=f.mono o.le;obtain ⟨qs,a9,a8⟩:=r.ah;refine WV (Vc lv r.av a9 a8 λlp k2 L o2=> ?_);have on:=o.grow L;obtain ⟨g1,m1,p,jS⟩:=on.sR;refine aP (p.ld (shf:=af) x.parts rfl ?_);have R:=r.mono L;obtain ⟨T,W,Y⟩:=R.log;have b9:T.length=z.log.length:=by grind
 refine zfa ?_;unfold RH;refine xO (enc:=λx=>ba (du.enc x)) (bW.cm 88 yv rfl) W (by decide) (λ_=>rfl) (λ_=>rfl) rfl ⟨by omega,by omega⟩ λh k3 A B=> ?_;refine ⟨⟨(p.grow A).eM (off:=10) (n:=1) (vs:=[x.parts.v]) rfl,trivial,trivial,trivial,trivial⟩,?_⟩;have B:Has k2 (dA 3 Gg h z.log) k3:=by rw [<-Y];exact B.we.GK uU λ_=>rfl
 refine WY (Vp (n:=2*nQ c) λP k4 M o4=> ?_);refine ⟨⟨((p.grow A).grow M).eM (off:=10) (n:=1) (vs:=[x.parts.v]) rfl,trivial,trivial,trivial,trivial⟩,?_⟩;refine rQ (sh:=xI) (⟨⟨none,0,0⟩,y.Cursor,h,y.lJ,y.eD,some lp,some P⟩:bm) rfl λq k5 l5 o5=> ?_;refine ⟨⟨(((p.grow A).grow M).grow l5).eM (off:=10) (n:=1) (vs:=[x.parts.v]) rfl,trivial⟩,?_⟩;have oN:Has k (ku q ⟨none,0,0⟩ (nQ c) z (λ_=>0)) k5:=Has.BL (x:=(⟨⟨none,0,0⟩,y.Cursor,h,y.lJ,y.eD,some lp,some P⟩:bm)) (((o2.beside B).beside o4).beside o5) ⟨f.ag,f.lost,f.forbidden,rfl,rfl⟩;obtain ⟨g2,m2,oF,b3⟩:=o.sF;have O:=b3 _ _ (oF.beside oN);refine mr (enc:=eP) (xs:=[q]) rfl (λ_=>rfl) λa2 k6 N o6=> ?_;obtain ⟨g3,m3,b1,_⟩:=(O.grow N).sR;refine ⟨⟨b1.eM (off:=10) (n:=1) (vs:=[x.parts.v]) rfl,trivial⟩,?_⟩;obtain ⟨g4,m4,oS,b5⟩:=(O.grow N).sS;refine oS.app (o6.jW λ_=>rfl) (λ_=>rfl) (λ_=>rfl) rfl ⟨by rw [hp,List.length_singleton];omega,by rw [hp,List.length_singleton];omega⟩ λw k7 o7=> ?_;have oB:=b5 _ _ o7;obtain ⟨g5,m5,b2,b4⟩:=oB.sR;refine aP (b2.st (uX x w) (off:=10) (new:=[w.v]) (by show 10+1<=12;omega) rfl λk8 o8=>X w q k8 ?_);have oC:=b4 _ _ o8;obtain ⟨g6,m6,oU,b6⟩:=oC.sU;have oD:=b6 _ _ (oU.beside (Has.j5 (sz:=1) (enc:=fC) (Hp.le_refl _)));refine cast ?_ oD;congr 1;have S:(Aw c t g (λ_=>⟨none,0,0⟩) (λ_ _=>0) i).star (ku q ⟨none,0,0⟩ (nQ c) z λ_=>0)=Aw c t (g++ [q]) (λ_=>⟨none,0,0⟩) (λ_ _=>0) (i+1):=by show _=(dR.first (λi=>ku ((g++ [q]).getD i a0) ⟨none,0,0⟩ (nQ c) (t.parts.getD i mX) λ_=>0) i).star (ku ((g++ [q]).getD i a0) ⟨none,0,0⟩ (nQ c) (t.parts.getD i mX) λ_=>0);rw [Oe hp.symm,pD J];congr 1;exact tW λj hj=>by grind
 rw [S];rfl
theorem Q7 {s:aB} {co:aw} {j:Nat} {ci:List bO} {Q:Hp->Prop} (b:cW h0 s t) (v:xR c t) (I:cP c) (O:j<nQ c) (hp:u.length=j) (j0:g.length=nP c)
  (c1:co.gy=c.lane) (c8:Rs h0 bV 2 x.bZ ci) (b2:dB (kz h0) ci c.procs) (c9:∀(p:Nat) y,ci[p]? =some y->code p=y.Code)
  (P:∀i id,i<nP c->m i id=if id / 2<j then nu c (cq t) i id else 0)
  (o:Has h0 (lY c t pm x g u own code (nP c) j m) k)
  (hk:∀l a e9 b5 k',(∀i id,i<nP c->b5 i id=if id / 2<j+1 then nu c (cq t) i id else 0)->Has h0 (lY c t pm (pA x l) g (u++ [a]) e9 code (nP c) (j+1) b5) k'->Q k'):
  ((aG s.aC.base s.aC.len (j:Int))/\aD none aN k (sat s.aC.base 15 (j:Int)) λx=>
 aj none (some pm) λp2=>
 aD none af k (Addr.add (Addr.add p2 0) 6) λW=>
 ((aG W.base W.len (j:Int))/\aD none bV k (sat W.base 2 (j:Int)) λK=>
 bu prog yF [(.int .i64 co.gy),x.cC.v,(.int .i64 x.Cursor)] an (ab .i64) (λr7 r8 h9=>
 aj none (some pm) λU=>
 aD none af h9 (Addr.add U 11) λX=>
 bG [(.int .i64 (j:Int)),(.int .i64 K.Part),K.Code.v,(.int .i64 x.State),(.int .i64 x.PC),(.int .i64 x.cD),(.int .i64 x.cE),(.int .i64 x.cF),(.int .i64 x.cG),(.int .i64 x.cH),(.int .i64 x.cI),(.int .i64 x.cJ),(.int .i64 x.cK),(.bool x.gx),(.pointer r7)] (λa1 a9=>
 (((aR a9 (Addr.add U 11) [X.v])/\True)/\bG [(.pointer (some a1))] (λa2 b0=>
 (((aR b0 (Addr.add U 11) [X.v])/\True)/\gv 1 8 [(.pointer none)] X ⟨(some a2),1,1⟩ (λr9 c4=>
 aj none (some pm) λp4=>
 cl c4 (Addr.add p4 11) [r9.v] (λG=>
 aj none (some pm) λp5=>
 aD none af G (Addr.add p5 10) λY=>
 ((aG Y.base Y.len K.Part)/\aD none an G (sat Y.base 1 K.Part) λL=>
 aj none L λp6=>
 aD none af G (Addr.add p6 0) λx6=>
 bG [(.int .i64 (j:Int))] (λa3 c5=>
 gv 1 8 [(.int .i64 (0:Int))] x6 ⟨(some a3),1,1⟩ (λh2 c6=>
 aj none L λp7=>
 cl c6 (Addr.add p7 0) [h2.v] (λM=>
 bM (λk1=>
 (if (decide (x.Timer>(0:Int)))=true then
 aj none L λD=>
 aD none an M (Addr.add D 6) λE=>
 aa prog xJ [(.int .i64 (j:Int))] (ab .i64) (λV B=>
 (((aR B (Addr.add D 6) [(.pointer E)])/\(True/\True))/\aa prog xH [(.pointer E),(.int .i64 V),(.int .i64 x.Timer)] (ab .i64) (λh3 H=>
 k1 H) B)) M
 else
 k1 M))
 (λB=>
 (if (decide (x.jl>(0:Int)))=true then
 aj none L λD=>
 aD none an B (Addr.add D 6) λE=>
 aa prog yO [(.int .i64 (j:Int))] (ab .i64) (λV H=>
 (((aR H (Addr.add D 6) [(.pointer E)])/\(True/\True))/\aa prog xH [(.pointer E),(.int .i64 V),(.int .i64 x.jl)] (ab .i64) (λh3 c7=>
 Q c7) H)) B
 else
 Q B)))) c5) G))) b0)) a9)) h9) k)):=by
 obtain ⟨ps,d4,b1⟩:=b.procs;have i7:=b1.len;have e1:=v.procs;have i6:=I.parts;have i9:=I.procs;refine kV (sh:=aN) (Rw.mono o.le d4) λ(y:bh) hy=> ?_;rw [Int.toNat_natCast] at hy;obtain ⟨z,R,A⟩:=b1.get hy;have d5:=List.mem_of_getElem? R;obtain ⟨v1,v2,v3,v4,v5⟩:=v.proc z d5;obtain ⟨g1,m1,T,jS⟩:=o.sR;refine aP (T.ld (shf:=af) x.bZ (off:=6) rfl ?_);have i2:=b2.len;have i4:nQ c=c.procs.length:=rfl;refine kV (sh:=bV) (Rw.mono o.le c8) λ(F:bO) N=> ?_;rw [Int.toNat_natCast] at N;obtain ⟨C,b3,b7,_⟩:=b2.get N;have d0:=List.mem_of_getElem? b3;have i5:=I.part C d0;have h5:aH c j=C.part.toNat:=by unfold aH;rw [b3];rfl
 have b9:=c9 j F N;rw [b7];have b6:=A.mono o.le;obtain ⟨ls,d3,d1⟩:=b6.ae;have d2:=I.lane;rw [c1,A.ag];refine YM (XO d2 (by omega) v2 d3 d1 v3 λa k2 l2 o2=> ?_);refine aP ((T.grow l2).ld (shf:=af) x.procs rfl ?_);refine rQ (sh:=bz) (⟨(j:Int),C.part,F.Code,y.State,y.PC,y.cD,y.cE,y.cF,y.cG,y.cH,y.cI,y.cJ,y.cK,y.gx,some a⟩:aM) rfl λq k3 l3 o3=> ?_;refine ⟨⟨((T.grow l2).grow l3).eM (off:=11) (n:=1) (vs:=[x.procs.v]) rfl,trivial⟩,?_⟩;have c0:gI (dW (⟨(j:Int),C.part,F.Code,y.State,y.PC,y.cD,y.cE,y.cF,y.cG,y.cH,y.cI,y.cJ,y.cK,y.gx,some a⟩:aM))=z.core:=by show (⟨y.PC,[y.cD,y.cE,y.cF,y.cG,y.cH,y.cI,y.cJ,y.cK]⟩:Core)=⟨z.pc,z.aO⟩;rw [A.pc,A.aO]
 have oN:Has k (pM q j (aH c j) (code j) c.lane z) k3:=by rw [b9];exact Has.BM (z:=(⟨(j:Int),C.part,F.Code,y.State,y.PC,y.cD,y.cE,y.cF,y.cG,y.cH,y.cI,y.cJ,y.cK,y.gx,some a⟩:aM)) (o2.beside o3) ⟨rfl,by grind,A.state,c0,A.bK,rfl⟩
 obtain ⟨g2,m2,oG,f4⟩:=o.sG;have oA:=f4 _ _ (oG.beside oN);refine mr (enc:=eP) (xs:=[q]) rfl (λ_=>rfl) λa2 k4 l4 o4=> ?_;obtain ⟨g3,m3,e6,_⟩:=(oA.grow l4).sR;refine ⟨⟨e6.eM (off:=11) (n:=1) (vs:=[x.procs.v]) rfl,trivial⟩,?_⟩;obtain ⟨g4,m4,oT,f8⟩:=(oA.grow l4).sT;refine oT.app (o4.jW λ_=>rfl) (λ_=>rfl) (λ_=>rfl) rfl ⟨by rw [hp,List.length_singleton];omega,by rw [hp,List.length_singleton];omega⟩ λS k5 o5=> ?_;have oB:=f8 _ _ o5;obtain ⟨g5,m5,e7,f7⟩:=oB.sR;refine aP (e7.st (pA x S) (off:=11) (new:=[S.v]) (by show 11+1<=12;omega) rfl λk6 o6=> ?_);have J:=f7 _ _ o6;obtain ⟨g6,m6,e8,l7⟩:=J.sR;refine aP (e8.ld (shf:=af) x.parts rfl ?_);have hi:aH c j<nP c:=by omega
 obtain ⟨g7,m7,oS,_⟩:=J.sS;have rs:Rs k6 an 1 x.parts (g.map some):=(oS.jW (λ_=>rfl)).map (f:=some) (enc:=λx=>ba (an.enc x));refine rs.get (λ_=>rfl) (by omega) (by omega) (by grind) λ(w:Option Addr) hw=> ?_;have ew:w=some (g.getD (aH c j) a0):=by grind
 subst ew;obtain ⟨g8,m8,oF,l5⟩:=J.sF;obtain ⟨g9,m9,d,_,l6⟩:=oF.one hi;obtain ⟨px,d⟩:=Has.ex.1 d;obtain ⟨lp,d⟩:=Has.ex.1 d;obtain ⟨wp,d⟩:=Has.ex.1 d;obtain ⟨d,eP⟩:=d.jP;refine aP ((Has.left d).ld (shf:=af) (off:=0) px.procs rfl ?_);rw [eP.1];obtain ⟨h6,j1,oU,f9⟩:=J.sU;obtain ⟨h7,j2,oO,_,gu⟩:=oU.one hi;have i3:((AT c (aH c j) j).map λ(q:Nat)=>(q:Int)).length<=j:=by rw [List.length_map];exact Nat.le_trans (List.length_filter_le ..) (by simp)
 refine oO.push (e:=(j:Int)) rfl (λ_=>rfl) (λ_=>rfl) rfl ⟨by omega,by omega⟩ λlo k7 o7=> ?_;have oD:=f9 _ _ (gu _ _ o7);obtain ⟨h8,k0,d9,f0⟩:=oD.sF;obtain ⟨c3,l0,r,_,f5⟩:=d9.one hi;obtain ⟨g0,r⟩:=Has.ex.1 r;obtain ⟨d7,r⟩:=Has.ex.1 r;obtain ⟨h4,r⟩:=Has.ex.1 r;obtain ⟨r,b8⟩:=r.jP;obtain ⟨i1,l1,e0,_,f6⟩:=r.fst;refine aP (e0.st ({g0 with procs:=lo}:bm) (off:=0) (new:=[lo.v]) (by show 0+1<=7;omega) rfl λk8 o8=> ?_);have oQ:Has c3 (ku (g.getD (aH c j) a0) lo (nQ c) (t.parts.getD (aH c j) mX) (m (aH c j))) k8:=Has.ex.2 ⟨_,Has.ex.2 ⟨d7,Has.ex.2 ⟨h4,(f6 _ _ o8).fB ⟨rfl,b8.2⟩⟩⟩⟩;have c2:=P (aH c j);refine bM.direct ?_;rw [A.timer];refine MR (id:=2*j) oQ (by omega) (by omega) (by grind) v4 (λh=>JU (by unfold Pb;rw [aI];grind)) λk9 o9=> ?_;rw [A.cp];refine MR (id:=2*j+1) o9 (by omega) (by omega) (by rw [lz (by omega),c2 _ hi,if_neg (by omega)]) v5 (λh=>JV (by unfold Pc;rw [show yw (2*(j:Int))=2*(j:Int) from aI,aI];grind)) λd6 d8=> ?_;have oE:=f0 _ _ (f5 _ _ d8);have a8:(cq t).proc j=z:=pD R;refine hk S q (dd own (aH c j) lo) (dd m (aH c j) (dd (dd (m (aH c j)) (2*j) z.timer) (2*j+1) z.cp)) d6 (λi id b4=> ?_) ?_
 ·by_cases e:i=aH c j
  ·subst e;rw [lS];by_cases Z:id=2*j+1
   ·subst Z;rw [lS,if_pos (by omega)];unfold nu;rw [show (2*j+1) / 2=j by omega,if_pos ⟨O,rfl⟩,if_neg (by omega),a8]
   ·rw [lz Z];by_cases e3:id=2*j
    ·subst e3;rw [lS,if_pos (by omega)];unfold nu;rw [show (2*j) / 2=j by omega,if_pos ⟨O,rfl⟩,if_pos (by omega),a8]
    ·rw [lz e3,P _ _ b4];omega
  ·rw [lz e,P _ _ b4];by_cases e4:id / 2<j
   ·omega
   ·rw [if_neg e4];split
    ·unfold nu;rw [if_neg ?_];rintro ⟨_,e5⟩;exact e (by rw [<-e5];congr 1;omega)
    ·rfl
 ·refine cast ?_ oE;congr 1;have eG:(Dh c t u code j).star (pM q j (aH c j) (code j) c.lane z)=Dh c t (u++ [q]) code (j+1):=by show _=(dR.first (λp=>pM ((u++ [q]).getD p a0) p (aH c p) (code p) c.lane (t.procs.getD p jB)) j).star (pM ((u++ [q]).getD j a0) j (aH c j) (code j) c.lane (t.procs.getD j jB));rw [Oe hp.symm,pD R];congr 1;exact tW λj O=>by grind
  have eU:dR.first (dd (λi=>dA 1 fC (own i) ((AT c i j).map λ(q:Nat)=>(q:Int))) (aH c j) (dA 1 fC lo ((AT c (aH c j) j).map (λ(q:Nat)=>(q:Int))++ [(j:Int)]))) (nP c)=wc c (dd own (aH c j) lo) (j+1) (nP c):=by
   refine tW λi hi=> ?_;by_cases e:i=aH c j
   ·subst e;rw [lS,lS,Od,if_pos rfl,List.map_append];rfl
   ·rw [lz e,lz e,Od,if_neg (Ne.symm e)]
  have eF:dR.first (dd (λi=>ku (g.getD i a0) (own i) (nQ c) (t.parts.getD i mX) (m i)) (aH c j) (ku (g.getD (aH c j) a0) lo (nQ c) (t.parts.getD (aH c j) mX) (dd (dd (m (aH c j)) (2*j) z.timer) (2*j+1) z.cp))) (nP c)=Aw c t g (dd own (aH c j) lo) (dd m (aH c j) (dd (dd (m (aH c j)) (2*j) z.timer) (2*j+1) z.cp)) (nP c):=by
   refine tW λi hi=> ?_;by_cases e:i=aH c j
   ·subst e;rw [lS,lS,lS]
   ·rw [lz e,lz e,lz e]
  rw [eG,eU,eF];rfl
theorem Yc {x:aw} {s:aB} {Q:Option Addr->Hp->Prop} (a:eo k x c) (b:cW k s t) (hu:∀l∈c.labels,lW l) (I:(fq c).1=0) (v:xR c t)
  (hq:∀K pm m h1 d,K.c=c->dD h1 K->k<=h1->Has h1 (aJ K pm (cq t) m) d->eH c m (cq t)->Q (some pm) d):zvf prog x s Q k:=by
 have G:=zW I;have hm:(jf c.labels).1=0:=by unfold fq at I;exact (jm.1 I).1
 unfold zvf;have c9:=G.parts;have d1:=G.procs;have a9:=G.table;have c7:nP c=c.labels.length:=rfl;have d0:nQ c=c.procs.length:=rfl;refine Sb (TM a (by omega) (by omega) (by omega) (λy J=>by have:=(G.code y J).1;omega) λr S o1 e1 e2 e3 e4=> ?_);refine ⟨⟨trivial,trivial⟩,?_⟩;obtain ⟨B,hB,_⟩:=(Gd o1 e1 e2 e3 e4).as_;have T:=o1.le;have ar:eo S r c:=hB.rd;have a1:=a.mono T;have c8:x.bg.len=c.labels.length:=a.labels.1;refine rQ (sh:=JQ) (⟨r.bg,r.Table,r.Fuel,r.gy,r.bR,r.Log,r.aC,none,none,s.di,⟨none,0,0⟩,⟨none,0,0⟩⟩:aT) rfl λpm k2 q o2=> ?_;refine LJ (s1:=an) (s2:=ab .i64) (s3:=ab .i64) (K0:=λp _ _ z=>S<=z/\∃w,p=some w/\rW z w c.labels) o2 (IV (Jq a1.labels (λe=>absurd hm e) λ_ w z E ht=>⟨E,w,rfl,ht⟩)) ?_;rintro r1 r2 r3 h3 k3 ⟨l3,w,rfl,hT⟩ o3;refine aP (o3.st (⟨r.bg,r.Table,r.Fuel,r.gy,r.bR,r.Log,r.aC,some w,none,s.di,⟨none,0,0⟩,⟨none,0,0⟩⟩:aT) (off:=7) (new:=[.pointer (some w)]) (by show 7+1<=12;omega) rfl λk4 o4=> ?_);have a3:=a1.mono l3;refine LJ (s1:=an) (s2:=ab .i64) (s3:=ab .i64) (K0:=λp _ _ z=>h3<=z/\∃sp,p=some sp/\∃(sl:Sl) (n:Int),aR z sp [sl.v,.int .i64 n]/\Is z sl c.table) o4 (IZ (Z5 a3.table (n:=(x.bg.len:Int)) (by omega) (by omega) a9.1 a9.2.1 (λi hi=>by grind) λsp i sl z E hl hs=>⟨E,sp,rfl,sl,_,hl,hs⟩)) ?_;rintro r4 r5 r6 A k5 ⟨l5,sp,rfl,sl,sn,hL,hS⟩ o5;refine aP (o5.st (⟨r.bg,r.Table,r.Fuel,r.gy,r.bR,r.Log,r.aC,some w,some sp,s.di,⟨none,0,0⟩,⟨none,0,0⟩⟩:aT) (off:=8) (new:=[.pointer (some sp)]) (by show 8+1<=12;omega) rfl λD o6=> ?_);have U:S<=A:=Hp.le_trans l3 l5;have H:cW A s t:=b.mono (Hp.le_trans T U);have Y:=ar.mono U;obtain ⟨ci,b3,O⟩:=Y.procs;obtain ⟨code,b4⟩:∃code:Nat->Sl,∀(p:Nat) y,ci[p]? =some y->code p=y.Code:=⟨λp=>((ci[p]?).map (·.Code)).getD ⟨none,0,0⟩,λp y h=>by grind⟩;obtain ⟨X,C⟩:∃X:aT,X=⟨r.bg,r.Table,r.Fuel,r.gy,r.bR,r.Log,r.aC,some w,some sp,s.di,⟨none,0,0⟩,⟨none,0,0⟩⟩:=⟨_,rfl⟩;rw [<-C] at o6;have c6:=O.len;have BS:Has A (lY c t pm X [] [] (λ_=>⟨none,0,0⟩) code 0 0 (λ_ _=>0)) D:=by
  have f1:Has D (dR.fact True) D:=Has.fact trivial (Hp.le_refl _);have n1:Has D (dA 1 eP X.parts []) D:=by rw [C];exact Has.j5 (Hp.le_refl _)
  have n2:Has D (dA 1 eP X.procs []) D:=by grind
  exact (o6.beside (f1.beside f1)).beside (n1.beside (n2.beside f1))
 obtain ⟨ps,b9,b2⟩:=H.parts;obtain ⟨qs,c1,c0⟩:=H.procs;have e5:=b2.len;have e6:=c0.len;have e7:=v.parts;have e8:=v.procs;have e9:s.bt.len=ps.length:=b9.1;have c5:s.aC.len=qs.length:=c1.1;refine au.intro (λ(i:Int) d=>0<=i/\i<=(nP c:Int)/\∃(l:Sl) (g:List Addr),g.length=i.toNat/\Has A (lY c t pm (uX X l) g [] (λ_=>⟨none,0,0⟩) code i.toNat 0 (λ_ _=>0)) d) (λi _=>(nP c-i).toNat) ⟨by omega,by omega,X.parts,[],rfl,BS⟩ ?_;rintro i k7 ⟨i0,i1,l,g,hp,o⟩;by_cases h:i<(nP c:Int)
 ·rw [if_pos (fT)];have Z:((i.toNat:Nat):Int)=i:=by omega
  have key:=Q6 (x:=uX X l) (i:=i.toNat) (Q:=λd=>(0<=yw (i+1)/\yw (i+1)<=(nP c:Int)/\∃(l:Sl) (g:List Addr),g.length=(yw (i+1)).toNat/\Has A (lY c t pm (uX X l) g [] (λ_=>⟨none,0,0⟩) code (yw (i+1)).toNat 0 (λ_ _=>0)) d)/\(nP c-yw (i+1)).toNat<(nP c-i).toNat) H v G (by omega) hp (by rw [C];rfl) o λE M d V=>by rw [aI];refine ⟨⟨by omega,by omega,E,g++ [M],by rw [List.length_append,List.length_singleton];omega,?_⟩,by omega⟩;rw [show (i+1).toNat=i.toNat+1 by omega];exact V
  grind
 ·rw [if_neg (λe=>h (by grind))];have ei:i.toNat=nP c:=by omega
  rw [ei] at o hp;refine au.intro (λ(j:Int) d=>0<=j/\j<=(nQ c:Int)/\∃(q:Sl) (u:List Addr) (own:Nat->Sl) (m:Nat->Nat->Int),u.length=j.toNat/\(∀i id,i<nP c->m i id=if id / 2<j.toNat then nu c (cq t) i id else 0)/\Has A (lY c t pm (pA (uX X l) q) g u own code (nP c) j.toNat m) d) (λj _=>(nQ c-j).toNat) ⟨by omega,by omega,X.procs,[],λ_=>⟨none,0,0⟩,λ_ _=>0,rfl,λ_ _ _=>(by simp),o⟩ ?_;rintro j k8 ⟨j0,j1,q,u,own,m,P,R,o⟩;by_cases hj:j<(nQ c:Int)
  ·rw [if_pos (fT)];have Z:((j.toNat:Nat):Int)=j:=by omega
   refine bM.direct ?_;have key:=Q7 (x:=pA (uX X l) q) (j:=j.toNat) (Q:=λd=>(0<=yw (j+1)/\yw (j+1)<=(nQ c:Int)/\∃(q:Sl) (u:List Addr) (own:Nat->Sl) (m:Nat->Nat->Int),u.length=(yw (j+1)).toNat/\(∀i id,i<nP c->m i id=if id / 2<(yw (j+1)).toNat then nu c (cq t) i id else 0)/\Has A (lY c t pm (pA (uX X l) q) g u own code (nP c) (yw (j+1)).toNat m) d)/\(nQ c-yw (j+1)).toNat<(nQ c-j).toNat) H v G (by omega) P hp a.lane (by rw [C];exact b3) O b4 R o λE M c3 c4 d c2 V=>by rw [aI,show (j+1).toNat=j.toNat+1 by omega];exact ⟨⟨by omega,by omega,E,u++ [M],c3,c4,by grind,c2,V⟩,by omega⟩
   rw [Z] at key;exact key
  ·rw [if_neg (λe=>hj (by grind))];have ej:j.toNat=nQ c:=by omega
   rw [ej] at o P R;obtain ⟨N,F,o9,⟨F2,b1,b7⟩,_⟩:=o.fst;have W:Has A ((dA 1 eP (pA (uX X l) q).parts g).star ((dA 1 eP (pA (uX X l) q).procs u).star (wc c own (nQ c) (nP c)))) N:=⟨F,F2,b1,b7⟩;have b0:=Y.mono F;have a8:∀p:Nat,∃L:List aZ,∀y,ci[p]? =some y->nv N y.Code L/\L.map bE=jX c p:=λp=>by
    cases J:ci[p]? with
    | none=>simp
    | some y=>obtain ⟨cz,b6,_,L,h1,h2⟩:=O.get J;refine ⟨L,λy' e=> ?_⟩;cases e;exact ⟨Rw.mono F h1,by rw [h2];unfold jX;rw [b6];rfl⟩
   obtain ⟨ins,a8⟩:=Classical.axiomOfChoice a8;refine hq ⟨c,pA (uX X l) q,w,sp,g,u,own,code,ins⟩ pm m N k8 rfl ?_ (Hp.le_trans (Hp.le_trans T U) F) ?_ (λi id hi=> ?_)
   ·refine ⟨I,hu,?_,by rw [C];rfl,hT.mono (Hp.le_trans l5 F),by rw [C];rfl,⟨sl,sn,nr F hL,Rw.mono F hS⟩,hp,(W.left.jW λ_=>rfl).map (f:=some) (enc:=λx=>ba (an.enc x)),P,(W.right.left.jW λ_=>rfl).map (f:=some) (enc:=λx=>ba (an.enc x)),λi hi=> ?_,λp hp=> ?_,λp hp=>G.fo⟩
    ·rw [C];exact b0
    ·exact ((W.right.right.at_ hi).jW λ_=>rfl)
    ·have b8:p<ci.length:=by have:p<nQ c:=hp;omega
     have J:=List.getElem?_eq_getElem b8;grind
   ·have et:rG (pA (uX X l) q) (cq t).tick=pA (uX X l) q:=by
     have e:X.tick=(cq t).tick:=by rw [C];exact b.tick
     rw [<-e];rfl
    unfold aJ;dsimp only;rw [et];exact o9
   ·rw [R i id hi];split
    ·rfl
    ·unfold nu;omega
end
section
variable {c:bd} {fl:Nat->Nat->Bool} {t:fe} {T:Int}
theorem Yd (m:cP c) (g:Good c fl (cq t) No No T) (hp:t.parts.length=nP c) (G:t.procs.length=nQ c):xR c t:=by
 have u:=g.pn m;have A:∀i x,t.parts[i]? =some x->i<nP c/\(cq t).part i=x:=λi x h=>⟨by grind,pD h⟩;have B:∀i x,t.procs[i]? =some x->i<nQ c/\(cq t).proc i=x:=λi x h=>⟨by grind,pD h⟩;have Q:=m.ak;refine ⟨hp,G,λx f=> ?_,λx f=> ?_⟩
 ·obtain ⟨i,hi⟩:=List.mem_iff_getElem?.1 f;obtain ⟨a,rfl⟩:=A i x hi;have sp:=u.part i a;have pm:=g.part i a;refine ⟨⟨⟨sp.im,by have:=pm.im;omega⟩,λo r=> ?_,λk o q r s=> ?_,λI J q K j C R z b H=> ?_⟩,sp.kg⟩
  ·obtain ⟨k,D⟩:=List.mem_iff_getElem?.1 r;rcases g.own i a k o D with h | h<;>omega
  ·obtain ⟨v,w,y⟩:=g.jT i a k q s;refine ⟨sp.iC.2 q (List.mem_of_getElem? s),λe=> ?_,λz b=>⟨(w z b).1,λe=> ?_⟩,v⟩
   ·grind
   ·obtain ⟨V,j,_,P⟩:=y (List.ne_nil_of_mem b);grind
  ·have L:=(g.jT i a I q j).2.1 z H;have M:=(g.jT i a J K C).2.1 z b;rcases L.2.2.2.2 with h | ⟨_,S,a1,_,a3⟩
   ·exact h
   ·rcases M.2.2.2.2 with h | ⟨_,U,N,_,O⟩
    ·exact h
    grind
 ·obtain ⟨p,F⟩:=List.mem_iff_getElem?.1 f;obtain ⟨d,rfl⟩:=B p x F;have sp:=u.proc p d;have pm:=g.proc p d;refine ⟨sp.len,sp.cur,λl n=> ?_,pm.np.1,pm.nq.1⟩;obtain ⟨i,hi⟩:=List.mem_iff_getElem?.1 n;have sl:=sp.dY l n;exact ⟨(pm.dY i l hi).1,λE=>((g.dY p d i l hi).2.1 E).2.2,sl.taken,sl.dropped,sl.nd,sl.waiters⟩
end
section
variable {h:Hp}
theorem aa8 {P:Program} {n:Int} {Q:Int->Int->Hp->Prop} (b:0<=n/\n<=8) (a:Q 0 n h):ZB P 1 n Q h:=by
 unfold ZB;have:n=0\/n=1\/n=2\/n=3\/n=4\/n=5\/n=6\/n=7\/n=8:=by omega
 refine ⟨by decide,by decide,by decide,by decide,by decide,?_⟩;rcases this with rfl | rfl | rfl | rfl | rfl | rfl | rfl | rfl | rfl<;>exact a
theorem lT {v:Value}:∀ {n:Nat},fm [v] n=List.replicate n v
 | 0=>rfl
 | n+1=>by unfold fm;simp
theorem CJ :∀ {n:Nat} {v:Int},iX (List.replicate n (Value.int .i64 v))=true
 | 0,_=>rfl
 | n+1,v=>by rw [List.replicate_succ];show (iX [Value.int .i64 v]&&iX (List.replicate n (Value.int .i64 v)))=true;rw [CJ];rfl
theorem TN {a:Addr} {v n:Int} {Q:Sl->Hp->Prop} (y:aR h a [.int .i64 v]) (w:0<=n/\n<=8) (p:∀l g,h<=g->Is g l (List.replicate n.toNat v)->Q l g):UE prog ⟨some a,1,1⟩ n Q h:=by
 unfold UE;refine bM.direct ?_;rw [if_neg (by simp;omega)];refine SO ?_;unfold Ix;refine Rv ?_;rw [show IntKind.wrap .u64 (((⟨some a,1,1⟩:Sl).len:Nat):Int)=1 from rfl,show IntKind.wrap .u64 n=n from tU ⟨by omega,by omega⟩];refine aa8 w (bM.direct ?_);refine aE ?_;rw [show (decide ((0:Int)>0) || decide (n>9223372036854775807))=false by simp;omega,if_neg (by decide)];obtain ⟨m,rfl⟩:∃m:Nat,n=(m:Int):=⟨n.toNat,by omega⟩;rw [aI];rw [Int.toNat_natCast] at p;refine ⟨⟨by omega,by omega,by omega,by omega⟩,λb ty hb=> ?_⟩;rw [Int.toNat_natCast,lT];have q:=lx (o:=.cells (List.replicate m (Value.int .i64 0)).toArray ty (0,0)) hb;have B:fb (h.set b (.cells (List.replicate m (Value.int .i64 0)).toArray ty (0,0))) b (List.replicate m (Value.int .i64 0)):=⟨ty,kK⟩;have cT:∀ {k d:Hp},h<=k->Mv [b] k [b] d->h<=d:=λu m c s e=>m.cT c s (u c s e) λG=>by grind
 refine EO (sz:=1) B (x:=⟨some a,1,1⟩) (n:=min 1 m) (new:=List.replicate (min 1 m) (Value.int .i64 v)) rfl ⟨by simp,?_⟩ CJ (by simp;omega) λJ E C=> ?_
 ·by_cases e:m=0
  ·omega
  ·refine .inr ⟨a,rfl,?_⟩;rw [show min 1 m=1 by omega];exact nr q y
 ·refine au.intro (λ(i:Int) d=>∃j:Nat,i=(j:Int)/\j<=m/\(1<=j\/m=0)/\h<=d/\fb d b (List.replicate j (Value.int .i64 v)++List.replicate (m-j) (Value.int .i64 0))) (λi _=>(m-i).toNat) ⟨min 1 m,rfl,by omega,by omega,cT q E,by simpa using C⟩ ?_;rintro i z ⟨j,rfl,H,I,r,f⟩;by_cases t:j<m
  ·rw [if_pos (decide_eq_true (by grind))];refine ⟨⟨by omega,by grind⟩,aE ⟨⟨by omega,by grind⟩,aE ?_⟩⟩;rw [Int.toNat_natCast];dsimp only;rw [uM (by omega),KT,Nat.zero_add,Nat.mul_one];refine EO (sz:=1) f (n:=min j (m-j)) (new:=List.replicate (min j (m-j)) (Value.int .i64 v)) rfl ?_ CJ (by simp;omega) λA F D=> ?_
   ·refine f.rd (by simp) ?_;grind
   ·rw [aI];refine ⟨⟨j+min j (m-j),by omega,by omega,by omega,cT r F,cast (congrArg (fb A b) ?_) D⟩,by omega⟩;rw [List.take_append_of_le_length (by simp),List.take_of_length_le (by simp),List.drop_append,List.drop_eq_nil_of_le (by simp),List.nil_append,List.drop_replicate,List.length_replicate,List.replicate_append_replicate];congr 2;omega
  ·rw [if_neg (λe=>t (by grind))];have:j=m:=by omega
   subst this;refine p _ z r ⟨by simp,by rw [List.flatMap_replicate];show (fm [Value.int .i64 v] j).length=_;rw [lT];simp,?_⟩;by_cases e:j=0
   ·grind
   ·refine .inr ⟨⟨b,0,none⟩,rfl,?_⟩;rw [Nat.sub_self] at f;refine f.fw (off:=0) (n:=j) ?_;rw [List.drop_zero,List.replicate_zero,List.append_nil,List.take_of_length_le (by simp),List.flatMap_replicate];exact lT.symm
end
section
variable {h0 h1 k:Hp} {A:dR}
theorem D1 {h:Hp} {b c:Nat} {d:Obj} (a:c≠b):(h.set b d) c=h c:=by simp [Hp.set,a]
theorem D2 {cs:List Value} {K:Addr->Hp->Prop} (o:Has h1 A k) (m:∀a f i,h1<=f->aR f a cs->Has f A i->K a i):bG cs K k:=by
 intro b t hb;obtain ⟨h,F,a,l⟩:=o;have j:h1 b=none:=tY h hb;refine m _ (h1.set b (.cells cs.toArray t (0,0))) _ (lx j) Ab ⟨λc n e=> ?_,F,A.same a λc d=> ?_,λc d=> ?_⟩
 ·by_cases g:c=b
  ·subst g;rw [kK] at e ⊢;exact e
  ·rw [D1 g] at e ⊢;exact h c n e
 ·have:c≠b:=λe=>A.known a c d (by rw [e];exact hb);exact D1 this
 ·have:c≠b:=λe=>A.known a c d (by rw [e];exact hb);rw [D1 this];exact l c d
theorem LK {e:Type} {sz bytes:Nat} {enc:e->List Value} {zero:List Value} {z:e} {n:Int} {K:Sl->Hp->Prop} (o:Has h1 A k) (i:zero=enc z) (f:∀x,(enc x).length=sz) (p:0<=n/\n<=1000) (hb:bytes<=1000)
  (g:∀l d c,h1<=d->Rw d sz enc l (List.replicate n.toNat z)->Has d A c->K l c):dL bytes zero n n K k:=by
 have m:n.toNat*bytes<=1000*1000:=Nat.mul_le_mul (by omega) hb;refine ⟨⟨by omega,by omega,by omega,by omega⟩,λb t hb=> ?_⟩;refine D2 (cs:=fm zero n.toNat) (K:=λa c=>K ⟨some a,n.toNat,n.toNat⟩ c) o (λa d c l h j=>g _ d c l ⟨by simp,?_,.inr ⟨a,rfl,?_⟩⟩ j) b t hb
 ·rw [List.flatMap_replicate,List.length_flatten,List.map_replicate,f,List.sum_replicate_nat,List.length_replicate]
 ·rw [List.flatMap_replicate,<-i];exact h
theorem zZ {d:Type} {sz bytes:Nat} {enc:d->List Value} {zero:List Value} {z:d} {n:Int} {K:Sl->Hp->Prop} (j:zero=enc z) (h:∀x,(enc x).length=sz) (o:0<=n/\n<=1000) (hb:bytes<=1000)
  (i:∀l a,k<=a->Has k (fS sz enc l (List.replicate n.toNat z)) a->K l a):dL bytes zero n n K k:=by
 have m:n.toNat*bytes<=1000*1000:=Nat.mul_le_mul (by omega) hb;refine ⟨⟨by omega,by omega,by omega,by omega⟩,λb t hb=> ?_⟩;have e:(List.replicate n.toNat z).flatMap enc=fm zero n.toNat:=by rw [List.flatMap_replicate,j];rfl
 have f:(fm zero n.toNat).length=n.toNat*sz:=by rw [<-e,List.flatMap_replicate,List.length_flatten,List.map_replicate,h,List.sum_replicate_nat]
 refine i _ _ (lx hb) ⟨lx hb,λc=>c=b,⟨[b],⟨by rw [List.length_replicate],Nat.le_refl _,.inr ⟨b,fm zero n.toNat,rfl,rfl,⟨t,kK⟩,f,?_⟩⟩,λc=>by simp⟩,λc g=>by rw [g];exact hb⟩;grind
end
abbrev eX :bS->List Value:=λx=>ba (bQ.enc x)
abbrev eY :bh->List Value:=λx=>ba (aN.enc x)
def zX :bS:=⟨0,⟨none,0,0⟩,0,0,⟨none,0,0⟩,⟨none,0,0⟩⟩
def zY :bh:=⟨0,0,0,0,0,0,0,0,0,0,0,0,false,0,⟨none,0,0⟩⟩
def zL :cd:=⟨⟨none,0,0⟩,⟨none,0,0⟩,0,0⟩
def xw (ak:Int):cR:=⟨0,[],0,0,List.replicate ak.toNat (-1),List.replicate ak.toNat []⟩
def xx (n:Nat):ai:=⟨0,0,List.replicate 8 0,0,0,false,0,List.replicate n ⟨[],[],0,0⟩⟩
theorem EL {c d:Type} {R:c->d->Prop} {a:c} {b:d} (h:R a b):∀ {n:Nat},dB R (List.replicate n a) (List.replicate n b)
 | 0=>trivial
 | n+1=>⟨h,EL h⟩
theorem D3 {c d:Type} {R:c->d->Prop} {a:c} {b:d} (h:R a b):∀ {l:List c} {m:List d},dB R l m->dB R (l++ [a]) (m++ [b])
 | [],[],_=>⟨h,trivial⟩
 | _::_,_::_,k=>⟨k.1,D3 h k.2⟩
section
variable {h0 hb k:Hp} {r r1:Sl} {i:Nat}
theorem Has.xE {sz:Nat} {sh:Shape} {l:Sl} {b:List sh.T} (o:Has h0 (fS sz (λx=>ba (sh.enc x)) l b) k) (a:∀x,(ba (sh.enc x)).length=sz) (c:0<sz) (hi:i<b.length):aG l.base l.len (i:Int):=
 (Rs.get (sh:=sh) (K:=λ_=>True) (o.nL a) a c (by omega) (by omega) λ_ _=>trivial).1
theorem Z8 {rows:List bS} {ak:Int} {K:Hp->Prop} {B:dR} (o:Has hb ((fS 6 eX r rows).star B) k) (hi:rows[i]? =some zX) (S:0<=ak/\ak<=8)
  (hk:∀x c b,hb<=c->gR c x (xw ak)->Has c ((fS 6 eX r (rows.set i x)).star B) b->K b):
  (bG [(.int .i64 (-1:Int))] (λa M=>
 ((True/\(True/\(True/\(True/\True))))/\(aa prog tV [(.slice (some a) 1 1),(.int .i64 ak)] af (λr2 G=>
 ((True/\(True/\(True/\True)))/\((aG r.base r.len (i:Int))/\(dL 24 [(.slice none 0 0)] ak ak (λE w=>
 ((True/\(True/\True))/\cl w (Addr.add (sat r.base 6 (i:Int)) 4) [r2.v] (λy=>
 ((True/\True)/\((aG r.base r.len (i:Int))/\cl y (Addr.add (sat r.base 6 (i:Int)) 5) [E.v] (λA=>
 K A)))))) G/\cl G (Addr.add (sat r.base 6 (i:Int)) 4) [r2.v] (λw=>
 ((True/\(True/\True))/\dL 24 [(.slice none 0 0)] ak ak (λE y=>
 ((True/\(True/\True))/\((aG r.base r.len (i:Int))/\cl y (Addr.add (sat r.base 6 (i:Int)) 5) [E.v] (λA=>
 K A)))) w)))))) M/\dL 24 [(.slice none 0 0)] ak ak (λr2 G=>
 ((True/\(True/\(True/\True)))/\aa prog tV [(.slice (some a) 1 1),(.int .i64 ak)] af (λE w=>
 ((True/\(True/\(True/\True)))/\((aG r.base r.len (i:Int))/\cl w (Addr.add (sat r.base 6 (i:Int)) 4) [E.v] (λy=>
 ((True/\(True/\True))/\((aG r.base r.len (i:Int))/\cl y (Addr.add (sat r.base 6 (i:Int)) 5) [r2.v] (λA=>
 K A))))))) G)) M))) k/\dL 24 [(.slice none 0 0)] ak ak (λr2 M=>
 ((True/\(True/\(True/\True)))/\bG [(.int .i64 (-1:Int))] (λa G=>
 ((True/\(True/\(True/\(True/\True))))/\aa prog tV [(.slice (some a) 1 1),(.int .i64 ak)] af (λE w=>
 ((True/\(True/\(True/\True)))/\((aG r.base r.len (i:Int))/\cl w (Addr.add (sat r.base 6 (i:Int)) 4) [E.v] (λy=>
 ((True/\(True/\True))/\((aG r.base r.len (i:Int))/\cl y (Addr.add (sat r.base 6 (i:Int)) 5) [r2.v] (λA=>
 K A))))))) G)) M)) k):=by
 have R:i<rows.length:=(List.getElem?_eq_some_iff.1 hi).1;have L:∀ {c b:Hp} {d g:Sl},hb<=c->Is c d (List.replicate ak.toNat (-1))->Rw c 1 (λx=>ba (af.enc x)) g (List.replicate ak.toNat (⟨none,0,0⟩:Sl))->Has c ((fS 6 eX r ((rows.set i {zX with bN:=d}).set i {zX with bN:=d,bI:=g})).star B) b->K b:=λ{c b d g} S m n h=>by rw [List.set_set] at h;exact hk _ c b S ⟨rfl,⟨[],Rw.nil rfl,rfl⟩,rfl,rfl,m,_,n,EL (Rw.nil rfl)⟩ h
 have O:∀ {c b:Hp} {d:Sl} {f:Hp->Prop},Has c ((fS 6 eX r rows).star B) b->(∀p,Has c ((fS 6 eX r (rows.set i {zX with bN:=d})).star B) p->f p)->cl b ((sat r.base 6 (i:Int)).add 4) [d.v] f:=λ{c b d f} h I=>by obtain ⟨m,_,X,_,put⟩:=h.fst;exact X.yj (i:=i) (x':={zX with bN:=d}) (off:=4) (new:=[d.v]) (λ_=>rfl) hi (by simp) rfl λp W=>I p (put _ _ W)
 have P:∀ {c b:Hp} {d g:Sl} {f:Hp->Prop},Has c ((fS 6 eX r (rows.set i {zX with bN:=d})).star B) b->(∀p,Has c ((fS 6 eX r ((rows.set i {zX with bN:=d}).set i {zX with bN:=d,bI:=g})).star B) p->f p)->cl b ((sat r.base 6 (i:Int)).add 5) [g.v] f:=λ{c b d g f} h I=>by obtain ⟨m,_,X,_,put⟩:=h.fst;exact X.yj (i:=i) (x:={zX with bN:=d}) (x':={zX with bN:=d,bI:=g}) (off:=5) (new:=[g.v]) (λ_=>rfl) (List.getElem?_set_self R) (by simp) rfl λp W=>I p (put _ _ W)
 have xE:∀ {c b:Hp} {b0:List bS},b0.length=rows.length->Has c ((fS 6 eX r b0).star B) b->aG r.base r.len (i:Int):=λe h=>(Has.left h).xE (sh:=bQ) (λ_=>rfl) (by decide) (by omega);have mk:∀ {c b:Hp} {F:dR} {f:Sl->Hp->Prop},Has c F b->(∀l u b,c<=u->Rw u 1 (λx=>ba (af.enc x)) l (List.replicate ak.toNat (⟨none,0,0⟩:Sl))->Has u F b->f l b)->dL 24 [(.slice none 0 0)] ak ak f b:=λh I=>LK (z:=(⟨none,0,0⟩:Sl)) (enc:=λx=>ba (af.enc x)) h rfl (λ_=>rfl) (by omega) (by omega) I;have Y:∀ {c b:Hp} {F:dR} {a:Addr} {f:Sl->Hp->Prop},Has c F b->aR c a [.int .i64 (-1)]->(∀l u b,c<=u->Is u l (List.replicate ak.toNat (-1))->Has u F b->f l b)->aa prog tV [(.slice (some a) 1 1),(.int .i64 ak)] af f b:=λ{c b F a f} h H I=>by refine yL (sh:=af) (K0:=λl Q=>c<=Q/\Is Q l (List.replicate ak.toNat (-1))) h (zui (x:=⟨some a,1,1⟩) (TN H S λl Q b2 R=>⟨b2,R⟩)) ?_;grind
 refine ⟨?_,?_⟩
 ·refine D2 o λa b1 k1 J H N=> ?_;refine ⟨⟨trivial,trivial,trivial,trivial,trivial⟩,?_,?_⟩
  ·refine Y N H λd Z k2 s m C=> ?_;refine ⟨⟨trivial,trivial,trivial,trivial⟩,xE rfl C,?_,?_⟩
   ·refine mk C λg a8 T t n q=> ?_;refine ⟨⟨trivial,trivial,trivial⟩,O q λU j=>⟨⟨trivial,trivial⟩,xE (by simp) j,P j λV D=>L (Hp.le_trans J (Hp.le_trans s t)) (Rw.mono t m) n D⟩⟩
   ·refine O C λT q=>⟨⟨trivial,trivial,trivial⟩,?_⟩;refine mk q λg b3 U a9 n j=> ?_;exact ⟨⟨trivial,trivial,trivial⟩,xE (by simp) j,P j λV D=>L (Hp.le_trans J (Hp.le_trans s a9)) (Rw.mono a9 m) n D⟩
  ·refine mk N λg Z k2 s n C=> ?_;refine ⟨⟨trivial,trivial,trivial,trivial⟩,?_⟩;refine Y C (nr s H) λd a8 T t m q=> ?_;exact ⟨⟨trivial,trivial,trivial,trivial⟩,xE rfl q,O q λU j=>⟨⟨trivial,trivial,trivial⟩,xE (by simp) j,P j λV D=>L (Hp.le_trans J (Hp.le_trans s t)) m (Rw.mono t n) D⟩⟩
 ·refine mk o λg b1 k1 J n N=> ?_;refine ⟨⟨trivial,trivial,trivial,trivial⟩,?_⟩;refine D2 N λa Z k2 s H C=> ?_;refine ⟨⟨trivial,trivial,trivial,trivial,trivial⟩,?_⟩;refine Y C H λd a8 T t m q=> ?_;exact ⟨⟨trivial,trivial,trivial,trivial⟩,xE rfl q,O q λU j=>⟨⟨trivial,trivial,trivial⟩,xE (by simp) j,P j λV D=>L (Hp.le_trans J (Hp.le_trans s t)) m (Rw.mono t (Rw.mono s n)) D⟩⟩
theorem aaa {rows:List bh} {n:Int} {K:Hp->Prop} {B:dR} (o:Has hb (B.star (fS 15 eY r1 rows)) k) (hi:rows[i]? =some zY) (u:1<=n/\n<=100)
  (j:∀x a b,hb<=a->dV a x (xx n.toNat)->Has a (B.star (fS 15 eY r1 (rows.set i x))) b->K b):
  dL 64 [(.slice none 0 0),(.slice none 0 0),(.int .i64 (0:Int)),(.int .i64 (0:Int))] n n (λr2 e=>
 ((True/\True)/\((aG r1.base r1.len (i:Int))/\cl e (Addr.add (sat r1.base 15 (i:Int)) 14) [r2.v] (λf=>
 K f)))) k:=by
 have h:i<rows.length:=(List.getElem?_eq_some_iff.1 hi).1;refine LK (sz:=4) (z:=zL) (enc:=λx=>ba (bD.enc x)) o rfl (λ_=>rfl) (by omega) (by omega) λl g w p d c=> ?_;refine ⟨⟨trivial,trivial⟩,(Has.right c).xE (sh:=aN) (λ_=>rfl) (by decide) h,?_⟩;obtain ⟨t,_,s,_,put⟩:=c.snd;refine s.yj (i:=i) (x':={zY with cC:=l}) (off:=14) (new:=[l.v]) (λ_=>rfl) hi (by simp) rfl λm q=>j _ g m p ⟨rfl,rfl,rfl,rfl,rfl,rfl,rfl,_,d,EL ⟨Rw.nil rfl,⟨[],Rw.nil rfl,rfl⟩,rfl,rfl⟩⟩ (put _ _ q)
theorem JO {x:aw} {c:bd} {Q:aB->Hp->Prop} (a:eo h0 x c) (N:cP c) (o:Has h0 ((fS 6 eX r (List.replicate (nP c) zX)).star (fS 15 eY r1 (List.replicate (nQ c) zY))) k)
  (U:∀y d,h0<=d->cW d y ((xA c).list c)->Q y d):au (α1:=Int) (λP b G=>
 (if (decide (b<((r.len:Nat):Int)))=true then
 bM (λk=>
 (bG [(.int .i64 (-1:Int))] (λa g=>
 ((True/\(True/\(True/\(True/\True))))/\(aa prog tV [(.slice (some a) 1 1),(.int .i64 x.bR)] af (λr2 m=>
 ((True/\(True/\(True/\True)))/\((aG r.base r.len b)/\(dL 24 [(.slice none 0 0)] x.bR x.bR (λu l=>
 ((True/\(True/\True))/\cl l (Addr.add (sat r.base 6 b) 4) [r2.v] (λq=>
 ((True/\True)/\((aG r.base r.len b)/\cl q (Addr.add (sat r.base 6 b) 5) [u.v] (λs=>
 k s)))))) m/\cl m (Addr.add (sat r.base 6 b) 4) [r2.v] (λl=>
 ((True/\(True/\True))/\dL 24 [(.slice none 0 0)] x.bR x.bR (λu q=>
 ((True/\(True/\True))/\((aG r.base r.len b)/\cl q (Addr.add (sat r.base 6 b) 5) [u.v] (λs=>
 k s)))) l)))))) g/\dL 24 [(.slice none 0 0)] x.bR x.bR (λr2 m=>
 ((True/\(True/\(True/\True)))/\aa prog tV [(.slice (some a) 1 1),(.int .i64 x.bR)] af (λu l=>
 ((True/\(True/\(True/\True)))/\((aG r.base r.len b)/\cl l (Addr.add (sat r.base 6 b) 4) [u.v] (λq=>
 ((True/\(True/\True))/\((aG r.base r.len b)/\cl q (Addr.add (sat r.base 6 b) 5) [r2.v] (λs=>
 k s))))))) m)) g))) G/\dL 24 [(.slice none 0 0)] x.bR x.bR (λr2 g=>
 ((True/\(True/\(True/\True)))/\bG [(.int .i64 (-1:Int))] (λa m=>
 ((True/\(True/\(True/\(True/\True))))/\aa prog tV [(.slice (some a) 1 1),(.int .i64 x.bR)] af (λu l=>
 ((True/\(True/\(True/\True)))/\((aG r.base r.len b)/\cl l (Addr.add (sat r.base 6 b) 4) [u.v] (λq=>
 ((True/\(True/\True))/\((aG r.base r.len b)/\cl q (Addr.add (sat r.base 6 b) 5) [r2.v] (λs=>
 k s))))))) m)) g)) G))
 (λg=>
 P (yw (b+(1:Int))) g)
 else
 au (α1:=Int) (λR E g=>
 (if (decide (E<((r1.len:Nat):Int)))=true then
 dL 64 [(.slice none 0 0),(.slice none 0 0),(.int .i64 (0:Int)),(.int .i64 (0:Int))] (yw (((x.bg.len:Nat):Int)+(1:Int))) (yw (((x.bg.len:Nat):Int)+(1:Int))) (λr2 m=>
 ((True/\True)/\((aG r1.base r1.len E)/\cl m (Addr.add (sat r1.base 15 E) 14) [r2.v] (λl=>
 R (yw (E+(1:Int))) l)))) g
 else
 Q ⟨(0:Int),r,r1⟩ g)) (0:Int) G)) (0:Int) k:=by
 have a8:=N.parts;have a9:=N.procs;have Y:nP c=c.labels.length:=rfl;have Z:x.bg.len=c.labels.length:=a.labels.1;have W:r.len=nP c:=by have:=(Has.left o).we.iy;grind
 have X:r1.len=nQ c:=by have:=(Has.right o).we.iy;grind
 refine au.intro (λ(t:Int) d=>0<=t/\t<=(nP c:Int)/\∃hb done,h0<=hb/\dB (gR hb) done (List.replicate t.toNat (xw c.ak))/\Has hb ((fS 6 eX r (done++List.replicate (nP c-t.toNat) zX)).star (fS 15 eY r1 (List.replicate (nQ c) zY))) d) (λt _=>(nP c-t).toNat) ⟨by omega,by omega,h0,[],Hp.le_refl _,trivial,by simpa using o⟩ ?_;rintro t k1 ⟨t0,t1,hb,done,lb,hd,o1⟩;have O:=hd.len;rw [List.length_replicate] at O;by_cases h:t<(nP c:Int)
 ·rw [if_pos (fT)];have A:((t.toNat:Nat):Int)=t:=by omega
  refine bM.direct ?_;have J:(done++List.replicate (nP c-t.toNat) zX)[t.toNat]? =some zX:=by grind
  rw [a.ak];have key:=Z8 (i:=t.toNat) (r:=r) (K:=λd=>(0<=yw (t+1)/\yw (t+1)<=(nP c:Int)/\∃hb done,h0<=hb/\dB (gR hb) done (List.replicate (yw (t+1)).toNat (xw c.ak))/\Has hb ((fS 6 eX r (done++List.replicate (nP c-(yw (t+1)).toNat) zX)).star (fS 15 eY r1 (List.replicate (nQ c) zY))) d)/\(nP c-yw (t+1)).toNat<(nP c-t).toNat) o1 J N.ak λy H d w C D=>by
   rw [aI,show (t+1).toNat=t.toNat+1 by omega];refine ⟨⟨by omega,by omega,H,done++ [y],Hp.le_trans lb w,?_,?_⟩,by omega⟩
   ·rw [List.replicate_succ'];exact D3 C (hd.imp λ_ _ e=>e.mono w)
   ·rw [List.set_append_right _ _ (by omega),O,Nat.sub_self,show nP c-t.toNat=(nP c-(t.toNat+1))+1 by omega,List.replicate_succ,List.set_cons_zero] at D;grind
  rw [A] at key;exact key
 ·rw [if_neg (λe=>h (by grind))];have A:t.toNat=nP c:=by omega
  rw [A,Nat.sub_self,List.replicate_zero,List.append_nil] at o1;rw [A] at hd;refine au.intro (λ(j:Int) d=>0<=j/\j<=(nQ c:Int)/\∃p f,hb<=p/\dB (dV p) f (List.replicate j.toNat (xx (nP c+1)))/\Has p ((fS 6 eX r done).star (fS 15 eY r1 (f++List.replicate (nQ c-j.toNat) zY))) d) (λj _=>(nQ c-j).toNat) ⟨by omega,by omega,hb,[],Hp.le_refl _,trivial,by simpa using o1⟩ ?_;rintro j V ⟨j0,j1,p,f,L,B,z⟩;have I:=B.len;rw [List.length_replicate] at I;by_cases T:j<(nQ c:Int)
  ·rw [if_pos (fT)];have F:((j.toNat:Nat):Int)=j:=by omega
   have J:(f++List.replicate (nQ c-j.toNat) zY)[j.toNat]? =some zY:=by rw [List.getElem?_append_right (by omega),I,Nat.sub_self,List.getElem?_replicate,if_pos (by omega)]
   rw [wrap64 (n:=(x.bg.len:Int)+1) (by omega) (by omega)];have S:((x.bg.len:Int)+1).toNat=nP c+1:=by omega
   have key:=aaa (i:=j.toNat) (r1:=r1) (n:=(x.bg.len:Int)+1) (K:=λd=>(0<=yw (j+1)/\yw (j+1)<=(nQ c:Int)/\∃p f,hb<=p/\dB (dV p) f (List.replicate (yw (j+1)).toNat (xx (nP c+1)))/\Has p ((fS 6 eX r done).star (fS 15 eY r1 (f++List.replicate (nQ c-(yw (j+1)).toNat) zY))) d)/\(nQ c-yw (j+1)).toNat<(nQ c-j).toNat) z J (by omega) λy H d w C D=>by
    rw [aI,show (j+1).toNat=j.toNat+1 by omega];refine ⟨⟨by omega,by omega,H,f++ [y],Hp.le_trans L w,?_,?_⟩,by omega⟩
    ·rw [List.replicate_succ'];rw [S] at C;exact D3 C (B.imp λ_ _ e=>e.mono w)
    ·rw [List.set_append_right _ _ (by omega),I,Nat.sub_self,show nQ c-j.toNat=(nQ c-(j.toNat+1))+1 by omega,List.replicate_succ,List.set_cons_zero] at D;rw [List.append_assoc];exact D
   grind
  ·rw [if_neg (λe=>T (by grind))];have F:j.toNat=nQ c:=by omega
   rw [F,Nat.sub_self,List.replicate_zero,List.append_nil] at z;rw [F] at B;have M:=z.le;refine U _ V (Hp.le_trans lb (Hp.le_trans L M)) ⟨rfl,⟨done,(Has.left z).nL λ_=>rfl,?_⟩,f,(Has.right z).nL λ_=>rfl,?_⟩
   ·have e:((xA c).list c).parts=List.replicate (nP c) (xw c.ak):=by show (List.range (nP c)).map (λ_=>xw c.ak)=_;rw [List.map_const',List.length_range]
    rw [e];exact hd.imp λ_ _ e=>e.mono (Hp.le_trans L M)
   ·have e:((xA c).list c).procs=List.replicate (nQ c) (xx (nP c+1)):=by show (List.range (nQ c)).map (λ_=>xx (nP c+1))=_;rw [List.map_const',List.length_range]
    rw [e];exact B.imp λ_ _ e=>e.mono M
theorem VV {x:aw} {c:bd} {Q:aB->Hp->Prop} (a:eo k x c) (e:cP c) (g:∀y f,k<=f->cW f y ((xA c).list c)->Q y f):Z9 prog x Q k:=by
 unfold Z9;have v:=e.parts;have C:=e.procs;have t:nP c=c.labels.length:=rfl;have B:nQ c=c.procs.length:=rfl;have u:x.bg.len=c.labels.length:=a.labels.1;obtain ⟨s,j,h⟩:=a.procs;have w:=h.len;have A:x.aC.len=s.length:=j.1;refine ⟨?_,?_⟩
 ·refine zZ (sz:=6) (z:=zX) (enc:=eX) rfl (λ_=>rfl) (by omega) (by omega) λl m o b=>⟨⟨trivial,trivial⟩,?_⟩;refine zZ (sz:=15) (z:=zY) (enc:=eY) rfl (λ_=>rfl) (by omega) (by omega) λp n q d=> ?_;rw [show ((x.bg.len:Int)).toNat=nP c by omega] at b;rw [show ((x.aC.len:Int)).toNat=nQ c by omega] at d;exact JO a e (b.beside d) g
 ·refine zZ (sz:=15) (z:=zY) (enc:=eY) rfl (λ_=>rfl) (by omega) (by omega) λp m o b=>⟨⟨trivial,trivial⟩,?_⟩;refine zZ (sz:=6) (z:=zX) (enc:=eX) rfl (λ_=>rfl) (by omega) (by omega) λl n q d=>⟨⟨trivial,trivial⟩,?_⟩;rw [show ((x.bg.len:Int)).toNat=nP c by omega] at d;rw [show ((x.aC.len:Int)).toNat=nQ c by omega] at b;exact JO a e (b.beside d).comm g
end
end Lf
namespace Go.Proofs
open Go.RowKit Go.Shelf
attribute [local go_sem] Oper.semAt_some
def wA (cur len:Int) (j:Nat):Int:=(wrap64 (cur+(j:Int))).tmod len
abbrev F9 (len:Nat):={x:Int // 0<=x/\x<(len:Int)}
def oh {a:Type} (num:Nat->a) (k:Nat):List a:=(List.range k).map num
theorem kH {a:Type} {num:Nat->a} {k:Nat}:oh num (k+1)=oh num k++ [num k]:=by simp [oh,List.range_succ]
theorem Zx {a:Type} {num:Nat->a} {k:Nat}:(oh num k).length=k:=by simp [oh]
def A0 :Value->Int
 | .int _ q=>q
 | _=>0
set_option maxHeartbeats 2000000 in
theorem TO (n:Nat) (hn:1<=n) (l A A1:Nat) (cur:Int) (len:Nat) (hlen:0<len) (hl2:len<=1000) (num:Nat->F9 len) (hnum:∀j,j<len->wA cur len j=(num j).1) (Kp:World->World->Prop) (hkp:∀W W',Kp W W'->W'.cell? ⟨A,0,none⟩=W.cell? ⟨A,0,none⟩/\W'.cell? ⟨A1,0,none⟩=W.cell? ⟨A1,0,none⟩) (J Jx:List (F9 len)->World->Prop)
  (hY:∀pre x W,J pre W->pre.length<len->YieldAt Fence.wide (n-1) Tryz.prog l #[.int .i64 x.1] W λe W'=>
   (e=.returned (.bool true)/\J (pre++ [x]) W'/\Kp W W')\/(e=.returned (.bool false)/\Jx (pre++ [x]) W'))
  (W:World) (hA:W.cell? ⟨A,0,none⟩=some (.int .i64 cur)) (hA1:W.cell? ⟨A1,0,none⟩=some (.int .i64 (len:Int))) (h0:J [] W):
  CallsIn Fence.wide n Tryz.prog 217 #[.func (.yield l) #[] #[],.pointer (some ⟨A1,0,none⟩),.pointer (some ⟨A,0,none⟩)] W λe W'=>(∃v,e=.returned v)/\
   ((∃ys,ys=oh num len/\J ys W')\/(∃pre,(∃k,k<=len/\pre=oh num k)/\Jx pre W')):=by
 refine callsIn_of_wp Tryz.func217 rfl trivial ?_ rfl;simp only [Tryz.ntmps217,List.size_toArray,List.length_cons,List.length_nil,Nat.reduceAdd,Nat.reduceSub,Array.replicate_succ,Array.replicate_zero,List.push_toArray,List.append_toArray,List.nil_append,List.cons_append]
 gi_wp2
 gi_loopw [6] (λi wr=>∃k:Nat,k<=len/\i=.int .i64 (k:Int)/\J (oh num k) wr/\wr.cell? ⟨A,0,none⟩=some (.int .i64 cur)/\wr.cell? ⟨A1,0,none⟩=some (.int .i64 (len:Int)))
  (λi _=>len-(A0 i).toNat)
 case atStart=>exact ⟨0,Nat.zero_le _,rfl,h0,hA,hA1⟩
 case round=>
  obtain ⟨k,hk,rfl,hJs,hcA,hcA1⟩:=hrel;by_cases hlt:k<len
  ·obtain ⟨fn,tmps,assign,body,hy,hR⟩:=hY _ (num k) wr hJs (by rw [Zx];exact hlt);rw [<-hnum k hlt] at hy;unfold wA at hy
   gi_wp2
   refine hR.mono ?_;rintro e W3 (⟨rfl,hJ3,hk3⟩ | ⟨rfl,hJx3⟩)
   ·gi_wp2
    go_roundw
    case rel=>exact ⟨k+1,by omega,by simp,by rw [kH];exact hJ3,(hkp _ _ hk3).1.trans hcA,(hkp _ _ hk3).2.trans hcA1⟩
    case measure=>simp [A0];omega
   ·gi_wp2
    refine bodyPost_ret (results_none rfl _ _ _) rfl ?_;exact ⟨⟨_,rfl⟩,.inr ⟨_,⟨k+1,by omega,kH.symm⟩,hJx3⟩⟩
  ·obtain rfl:k=len:=by omega
   gi_wp2
   go_end0
   exact ⟨⟨_,rfl⟩,.inl ⟨_,rfl,hJs⟩⟩
end Go.Proofs
namespace Lf
open Go Go.Proofs Tryz
noncomputable def mz :Code:=match xj f152 with
 | .seq _ (.scope (.seq _ (.seq _ (.seq _ t))))=>t
 | _=>.skip
def tP :List Nat:=[1,3,4]
def AZ :iY:=.sq .tt (.sq (.rg [(0,[]),(1,[]),(2,[]),(3,[]),(4,[]),(5,[]),(6,[]),(7,[]),(8,[]),(9,[]),(10,[]),(11,[])]) (.sq (.rg [(0,[]),(1,[]),(2,[]),(3,[]),(4,[]),(5,[]),(6,[]),(7,[]),(8,[]),(9,[]),(10,[]),(11,[]),(12,[]),(13,[]),(14,[]),(15,[]),(16,[])]) (.sq (.rg [(0,[]),(1,[]),(2,[]),(3,[]),(4,[]),(5,[]),(6,[2]),(7,[]),(8,[]),(9,[])]) .tt)))
noncomputable def wy :Ctx:=⟨prog,tb,tP⟩
def kG (p:Option Addr) (lane:Int):St where
 f:=λt=>match t with
  | 1=>some (.box 1 0,[])
  | 2=>some (.v (.int .i64 0),[])
  | 3=>some (.box 3 0,[])
  | 4=>some (.box 4 0,[])
  | 5=>some (.v (.bool false),[])
  | 6=>some (.v (.int .i64 0),[])
  | _=>none
 m:=λk=>match k with
  | 1=>some [.pointer p]
  | 3=>some [.int .i64 lane]
  | 4=>some [.int .i64 0,.int .i64 0]
  | _=>none
noncomputable def GO (K:(bC tb f152.resultTypes.toList).T->Hp->Prop):Env:=λe s h=>match e with
 | .gH | .ret=>uB wy s h f152.results.toList f152.resultTypes.toList K
 | _=>False
noncomputable def rF (p:Option Addr) (lane:Int) (K:(bC tb f152.resultTypes.toList).T->Hp->Prop) (h:Hp):Prop:=
 liftM wy mz .full AZ tP (kG p lane) (GO K) h
end Lf
namespace Go.Proofs
open Go.RowKit Go.Shelf
attribute [local go_sem] Oper.semAt_some
theorem uI {w:World} {o:Obj} {b:Nat}:(w.alloc o).heap[b]? =if b=w.heap.size then some o else w.heap[b]?:=by show (w.heap.push o)[b]? =_;grind
theorem Fh {W:World} {b i:Nat} {a:Array Value} {t:TypeId} (h:W.heap[b]? =some (.cells a t (0,0))):W.cell? ⟨b,i,none⟩=a[i]?:=by simp [World.cell?,h]
theorem za {W a:World} {b i:Nat} (h:a.heap[b]? =W.heap[b]?):a.cell? ⟨b,i,none⟩=W.cell? ⟨b,i,none⟩:=by simp [World.cell?,h]
structure Bp (B c:Nat) (W2:World) (v:Int) (W:World):Prop where
 same:∀b,b<B->b≠c->W.heap[b]? =W2.heap[b]?
 box:W.heap[c]? =some (.cells #[.int .i64 v] 3)
 size:B<=W.heap.size
 os:W.os=W2.os
 tape:W.tape=W2.tape
 output:W.output=W2.output
theorem Bp.grown {B c:Nat} {f W d:World} {v:Int} {row:Option Nat} (g:Bp B c f v W) (h:c<B) (a:W.grownBy d row) (j:∀r,row=some r->B<=r/\∃o:Obj,W.heap[r]? =some o/\o.isCells=false):Bp B c f v d:=by
 have key:∀b,b<B->d.heap[b]? =W.heap[b]?:=λb hb=>a.block b (Nat.lt_of_lt_of_le hb g.size) λe=>by grind
 exact ⟨λb hb i=>(key b hb).trans (g.same b hb i),(key c h).trans g.box,Nat.le_trans g.size a.size,a.os.trans g.os,a.tape.trans g.tape,a.output.trans g.output⟩
theorem Zl {n:Nat} {d:Nat->Nat} {s:Lf.St} {a:Act} {h:Lf.Hp} {w:World} {D:Nat} (r:Lf.Rel n d s a h w) (q:h D=none) (t:w.heap[D]? =some (.deferred (some []))) (o:Obj):Lf.Rel n d s a h (w.putObj D o) where
 sz:=r.sz
 sub:=λb p e=>by
  have c:b≠D:=λi=>by grind
  rw [World.putObj_heap_other c];exact r.sub b p e
 lt:=r.lt
 chain:=r.chain
 cur:=r.cur
 cm:=r.cm
 box:=λk f e m=>by
  obtain ⟨j,g,l⟩:=r.box k f e m;have c:d k≠D:=λi=>by grind
  exact ⟨j,g,by rw [World.putObj_heap_other c];exact l⟩
 inj:=r.inj
 kZ:=r.kZ
 kh:=r.kh
abbrev Dl (p:Addr) (w:World) (b c d a:Value):Array Value:= #[Value.pointer (some p),Value.pointer (some {block:=w.heap.size,off:=0}),Value.int IntKind.i64 0,Value.pointer (some {block:=w.heap.size+1,off:=0}),Value.pointer (some {block:=w.heap.size+1+1,off:=0}),Value.bool false,Value.int IntKind.i64 0,b,c,d,a,undef,undef,undef,undef,undef,undef,undef,undef,undef,undef,undef,undef,undef,undef,undef,undef,undef,undef,undef,undef,undef,undef,undef,undef,undef,undef,undef,undef,undef,undef,undef,undef,undef,undef,undef,undef,undef,undef,undef,undef,undef,undef]
theorem Ye {k:Lf.Hp} {p:Addr} {w W:World} {D:Nat} {v:Int} {R S U Q:Value} {K:(Lf.bC Lf.tb Tryz.f152.resultTypes.toList).T->Lf.Hp->Prop} (E:Lf.Sub k w)
  (s:Below w.heap.size w W) (b0:W.heap[w.heap.size]? =some (.cells #[.pointer (some p)] 120)) (b1:W.heap[w.heap.size+1]? =some (.cells #[.int .i64 v] 3)) (b2:W.heap[w.heap.size+2]? =some (.cells #[.int .i64 0,.int .i64 0] 97))
  (H:w.heap.size+3<=D) (I:W.heap[D]? =some (.deferred (some []))) (ht:Lf.rF (some p) v K k):
  Lf.mz.wp Tryz.prog (Exit.noGoto (bodyPostM Fence.wide 3 Tryz.prog Tryz.f152 λe y=>∃u g,e=.returned u/\(∃x,u=(Lf.bC Lf.tb Tryz.f152.resultTypes.toList).enc x/\K x g)/\Lf.Step k g w y))
   {tmps:=Dl p w R S U Q,defers:=[{target:=.collected D,args:= #[]}]} W:=by
 have b6:Lf.Sub k W:=λb o e=>(s.block b (E.lt e)).trans (E b o e);have b5:∀b,w.heap.size<=b->k b=none:=λb hb=>by
  cases e:k b with
  | none=>rfl
  | some o=>have:=E.lt e;omega
 have a8:Lf.Rel 53 (λk=>if k=1 then w.heap.size else if k=3 then w.heap.size+1 else w.heap.size+2) (Lf.kG (some p) v) {tmps:=Dl p w R S U Q,defers:=[{target:=.collected D,args:= #[]}]} k W:=by
  have P:∀(t:Nat) (l:Lf.LV) (c:Lf.aY),(Lf.kG (some p) v).f t=some (l,c)->c=[]/\(t=1/\l=.box 1 0\/t=2/\l=.v (.int .i64 0)\/t=3/\l=.box 3 0\/t=4/\l=.box 4 0\/t=5/\l=.v (.bool false)\/t=6/\l=.v (.int .i64 0)):=λt l c e=>by unfold Lf.kG at e;dsimp only at e;split at e<;>cases e<;>simp
  have cell:∀(k:Nat) (d:List Value),(Lf.kG (some p) v).m k=some d->k=1/\d=[.pointer (some p)]\/k=3/\d=[.int .i64 v]\/k=4/\d=[.int .i64 0,.int .i64 0]:=λk d e=>by unfold Lf.kG at e;dsimp only at e;split at e<;>cases e<;>simp
  refine ⟨rfl,b6,λt l c e=> ?_,λt l c e q hq=> ?_,λt l c e _ _=> ?_,λt l c e _ J=> ?_,λa d e _=> ?_,λA B V X _ _ z=> ?_,λ_ e=>e.elim,λ_ e=>e.elim⟩
  ·grind
  ·grind
  ·obtain ⟨_,h | h | h | h | h | h⟩:=P t l c e<;>obtain ⟨rfl,rfl⟩:=h<;>exact ⟨rfl,λ_ _ _=>trivial⟩
  ·rw [(P t l c e).1] at J;exact absurd (Lf.bL _) J
  ·grind
  ·have c1:A=1\/A=3\/A=4:=by
    cases e:(Lf.kG (some p) v).m A with
    | none=>exact absurd e V
    | some d=>rcases cell A d e with h | h | h<;>simp [h.1]
   have c2:B=1\/B=3\/B=4:=by
    cases e:(Lf.kG (some p) v).m B with
    | none=>exact absurd e X
    | some d=>rcases cell B d e with h | h | h<;>simp [h.1]
   grind
 have C:∀a∈Lf.tP,∀b,b<w.heap.size\/w.heap.size+3<=b->(if a=1 then w.heap.size else if a=3 then w.heap.size+1 else w.heap.size+2)≠b:=λa _ b hb e=>by grind
 refine Lf.nH Lf.bW Lf.mz Lf.AZ Lf.tP _ _ k (Lf.pP (n:=53) (by kernel_rfl)) ht _ _ W a8 _ λe s' g b7 F y z Z r=> ?_;have rX:D<W.heap.size:=Lf.ic I;have dn:k D=none:=b5 D (by omega);have O:y.heap[D]? =some (.deferred (some [])):=(r.cT D rX dn λa j _=>C a j D (.inr H)).trans I;have Y:g D=none:=r.xF D rX dn λa j _=>C a j D (.inr H);have G:Lf.uB Lf.wy s' g Tryz.f152.results.toList Tryz.f152.resultTypes.toList K->LeavesInM Fence.wide 3 Tryz.prog Tryz.f152 F.tmps (λe y=>∃u g,e=.returned u/\(∃x,u=(Lf.bC Lf.tb Tryz.f152.resultTypes.toList).enc x/\K x g)/\Lf.Step k g w y) F.defers .returning y:=λa9=>by
  rw [r.defers];refine ⟨by simp,.inl ⟨_,_,rfl,run_takeDeferred O,?_⟩⟩;have N:=Zl Z Y O (.deferred none);obtain ⟨x,vs,j,b3,b4⟩:=Lf.rC Lf.bW N a9;refine ⟨_,Lf.mZ b3,_,g,rfl,⟨x,b4,j⟩,N.sub,?_,λb hb M=> ?_,?_,?_,?_⟩
  ·have:=r.size;have:=s.size;simp;omega
  ·have L:b<W.heap.size:=Nat.lt_of_lt_of_le hb s.size;refine ⟨?_,r.xF b L M λa j _=>C a j b (.inl hb)⟩;rw [World.putObj_heap_other (by omega),r.cT b L M λa j _=>C a j b (.inl hb)];exact s.block b hb
  ·exact r.os.trans s.os
  ·exact r.tape.trans s.tape
  ·exact r.output.trans s.output
 cases e with
 | gH=>exact G z
 | ret=>exact G z
 | ext i=>exact z.elim
 | kn i=>exact z.elim
end Go.Proofs
namespace Go.Proofs
open Go.RowKit Go.Shelf
attribute [local go_sem] Oper.semAt_some
theorem Yf {W:World} {b i:Nat} {a:Array Value} {t:TypeId} (h:W.heap[b]? =some (.cells a t (0,0))):W.frozen? ⟨b,i,none⟩=false:=by simp [World.frozen?,h]
theorem aab {W:World} {b c i:Nat} {v:Value} (h:b≠c):(W.setCell ⟨c,i,none⟩ v).heap[b]? =W.heap[b]?:=by show (W.heap.modify c _)[b]? =_;grind
theorem aa9 {W:World} {c:Nat} {u v:Value} {t:TypeId} (h:W.heap[c]? =some (.cells #[u] t (0,0))):(W.setCell ⟨c,0,none⟩ v).heap[c]? =some (.cells #[v] t (0,0)):=by show (W.heap.modify c _)[c]? =_;grind
set_option maxHeartbeats 4000000 in
theorem Yg {k:Lf.Hp} {pb:Nat} {ag:Int} {len:Nat} {ptr:Nat->Addr} {eh:Nat->Nat} {w:World} {Kq:(Lf.bC Lf.tb Tryz.f152.resultTypes.toList).T->Lf.Hp->Prop} (hs:Lf.Sub k w)
  (hl:0<len/\len<=1000) (num:Nat->F9 len) (hnum:∀j,j<len->wA ag len j=(num j).1)
  (hround:∀W,Lf.Sub k W->Calls Tryz.prog 197 #[.pointer (some ⟨pb,0,none⟩)] W λe W'=>∃A A1:Nat,e=.returned (.func (.func 217) #[] #[.pointer (some ⟨A1,0,none⟩),.pointer (some ⟨A,0,none⟩)])/\(W.heap.size<=A/\A<W'.heap.size)/\(W.heap.size<=A1/\A1<W'.heap.size)/\
   W'.cell? ⟨A,0,none⟩=some (.int .i64 ag)/\W'.cell? ⟨A1,0,none⟩=some (.int .i64 (len:Int))/\Below W.heap.size W W')
  (lb:Nat) (lo lc:Nat) (hlane:∀W,Lf.Sub k W->W.cell? ⟨pb,0,none⟩=some (.slice (some ⟨lb,lo,none⟩) len lc))
  (hptr:∀j,j<len->∀W,Lf.Sub k W->W.cell? ⟨lb,lo+j,none⟩=some (.pointer (some (ptr j))))
  (hlen:∀j,j<len->∀W,Lf.Sub k W->Calls Tryz.prog 198 #[.pointer (some (ptr j))] W λe W'=>e=.returned (.int .i64 (eh j:Int))/\Below W.heap.size W W')
  (hno:(∀j,j<len->eh (num j).1.toNat=0)->Lf.rF (some ⟨pb,0,none⟩) (-1) Kq k)
  (hyes:∀j,j<len->(∀i,i<j->eh (num i).1.toNat=0)->eh (num j).1.toNat≠0->Lf.rF (some ⟨pb,0,none⟩) (num j).1 Kq k):
  Calls Tryz.prog 152 #[.pointer (some ⟨pb,0,none⟩)] w (λe w'=>∃u h',e=.returned u/\(∃x,u=(Lf.bC Lf.tb Tryz.f152.resultTypes.toList).enc x/\Kq x h')/\Lf.Step k h' w w'):=by
 refine callsIn_wide.1 (callsIn_of_wp_marks (n:=3) Tryz.func152 rfl trivial ?_ rfl);simp only [Tryz.ntmps152,List.size_toArray,List.length_cons,List.length_nil,Nat.reduceAdd,Nat.reduceSub,Array.replicate_succ,Array.replicate_zero,List.push_toArray,List.append_toArray,List.nil_append,List.cons_append]
 gi_wp2
 refine (show ∀T,T=Lf.mz->Code.wpIn Fence.wide 3 Tryz.prog (Code.scope (Code.seq _ (Code.seq _ (Code.seq (Code.seq _ (Code.block _ (Code.rangeFunc _ _ _ _))) T)))) _ _ _ from λT hT=> ?_) _ rfl;refine wpIn_wide.2 (wp_scope_straight ((wpIn_wide (n:=3)).1 (wpIn_seq_k λK1 hK1=> ?_)))
 gi_wp2
 rename_i K hK;refine wpIn_wide.2 (wp_label (hK _ _ ?_));clear hK;have hsz:(((w.alloc (Obj.cells #[Value.pointer (some ⟨pb,0,none⟩)] 120)).alloc (Obj.cells #[Value.int IntKind.i64 (-1)] 3)).alloc (Obj.cells #[Value.int IntKind.i64 0,Value.int IntKind.i64 0] 97)).heap.size=w.heap.size+3:=by simp
 obtain ⟨W0,hW0⟩:∃W0,((w.alloc (Obj.cells #[Value.pointer (some ⟨pb,0,none⟩)] 120)).alloc (Obj.cells #[Value.int IntKind.i64 (-1)] 3)).alloc (Obj.cells #[Value.int IntKind.i64 0,Value.int IntKind.i64 0] 97)=W0:=⟨_,rfl⟩;have b0:W0.heap[w.heap.size]? =some (.cells #[Value.pointer (some ⟨pb,0,none⟩)] 120):=by rw [<-hW0,uI,if_neg (by simp;omega),uI,if_neg (by simp),uI,if_pos rfl]
 have b1:W0.heap[w.heap.size+1]? =some (.cells #[Value.int IntKind.i64 (-1)] 3):=by rw [<-hW0,uI,if_neg (by simp),uI,if_pos (by simp)]
 have b2:W0.heap[w.heap.size+2]? =some (.cells #[Value.int IntKind.i64 0,Value.int IntKind.i64 0] 97):=by rw [<-hW0,uI,if_pos (by simp)]
 have bo:Below w.heap.size w W0:=by rw [<-hW0];exact (((Below.refl _ w).alloc (Nat.le_refl _) _).alloc (by simp) _).alloc (by simp;omega) _
 rw [hW0] at hsz ⊢;have c0:W0.cell? ⟨w.heap.size,0,none⟩=some (.pointer (some ⟨pb,0,none⟩)):=Fh b0;have hs0:Lf.Sub k W0:=λb o e=>(bo.block b (hs.lt e)).trans (hs b o e);have hr:=hround W0 hs0;refine wpIn_seq_k λK hK=> ?_
 gi_wp2_with (refine ⟨trivial,?_⟩;gi_at_call 197;refine (callsIn_wide.2 hr).mono ?_;rintro e W2 ⟨A,A1,rfl,hA,hA1,hcA,hcA1,hB⟩)
 clear hr hround;have cB:w.heap.size+1<W2.heap.size:=by omega
 have w0:W2.heap[w.heap.size]? =some (.cells #[Value.pointer (some ⟨pb,0,none⟩)] 120):=(hB.block _ (by omega)).trans b0;have w1:W2.heap[w.heap.size+1]? =some (.cells #[Value.int IntKind.i64 (-1)] 3):=(hB.block _ (by omega)).trans b1;have w2:W2.heap[w.heap.size+2]? =some (.cells #[Value.int IntKind.i64 0,Value.int IntKind.i64 0] 97):=(hB.block _ (by omega)).trans b2;have ww:Below w.heap.size w W2:=bo.trans (hB.mono (by omega));have subG:∀ {v W},Bp W2.heap.size (w.heap.size+1) W2 v W->Lf.Sub k W/\Below w.heap.size w W/\W.heap[w.heap.size]? =some (.cells #[Value.pointer (some ⟨pb,0,none⟩)] 120)/\W.heap[w.heap.size+2]? =some (.cells #[Value.int IntKind.i64 0,Value.int IntKind.i64 0] 97):=λ{v W} g=>by have hb:Below w.heap.size w W:=⟨g.os.trans ww.os,g.tape.trans ww.tape,g.output.trans ww.output,by have:=g.size;omega,λb hb=>(g.same b (by omega) (by omega)).trans (ww.block b hb)⟩;exact ⟨λb o e=>(hb.block b (hs.lt e)).trans (hs b o e),hb,(g.same _ (by omega) (by omega)).trans w0,(g.same _ (by omega) (by omega)).trans w2⟩
 have tail:∀ {v W D} {x7 x8 x9 x10:Value},Bp W2.heap.size (w.heap.size+1) W2 v W->W2.heap.size<=D->W.heap[D]? =some (.deferred (some []))->Lf.rF (some ⟨pb,0,none⟩) v Kq k->
   K {tmps:=Dl ⟨pb,0,none⟩ w x7 x8 x9 x10,defers:=[{target:=.collected D,args:= #[]}]} W:=λ{v W D x7 x8 x9 x10} g hD hK2 ht=>by
  obtain ⟨q1,q2,q3,q4⟩:=subG g;refine hK _ _ (wpIn_wide.2 ?_);rw [hT];exact Ye hs q2 q3 g.box q4 (by omega) hK2 ht
 refine wpIn_rangeFunc_ownF (α:=F9 len) rfl (by decide) (gf:=217) (lb:= #[Value.pointer (some ⟨A1,0,none⟩),Value.pointer (some ⟨A,0,none⟩)]) rfl trivial (enters_of Tryz.func217 (by kernel_rfl) rfl)
  (encs:=λx=> #[.int .i64 x.1]) (Kp:=λW W'=>W'.cell? ⟨A,0,none⟩=W.cell? ⟨A,0,none⟩/\W'.cell? ⟨A1,0,none⟩=W.cell? ⟨A1,0,none⟩)
  (S:=λys=>ys=oh num len) (Sp:=λpre=>∃k,k<=len/\pre=oh num k) (N:=len) (w0:=W2)
  (λl J Jx W hW _ _ hY h0=>TO 2 (by decide) l A A1 ag len hl.1 hl.2 num hnum _ (λ_ _ h=>h) J Jx hY W ((hW.cell (p:=⟨A,0,none⟩) hA.2).trans hcA) ((hW.cell (p:=⟨A1,0,none⟩) hA1.2).trans hcA1) h0)
  (λh1 h2=>⟨h2.1.trans h1.1,h2.2.trans h1.2⟩)
  (λW l o o' hl2 _ _ _=>⟨za (World.putObj_heap_other (by omega)),za (World.putObj_heap_other (by omega))⟩)
  (Below.refl _ _) (λ_=>rfl)
  (λpre W=>Bp W2.heap.size (w.heap.size+1) W2 (-1) W/\∀y∈pre,eh y.1.toNat=0)
  (λc pre W=>c=.exit 0/\∃pre' x,pre=pre'++ [x]/\(∀y∈pre',eh y.1.toNat=0)/\eh x.1.toNat≠0/\Bp W2.heap.size (w.heap.size+1) W2 x.1 W)
  (λs A B row hs hg hr=>⟨hs.1.grown cB hg hr,hs.2⟩)
  (λc s A B row hs hg hr=>by
   obtain ⟨e,pre',x,h1,h2,h3,h4⟩:=hs;exact ⟨e,pre',x,h1,h2,h3,h4.grown cB hg hr⟩)
  ⟨⟨λ_ _ _=>rfl,w1,Nat.le_refl _,rfl,rfl,rfl⟩,λy hy=>by cases hy⟩
  (λx=>{tmps:= #[Value.pointer (some ⟨pb,0,none⟩),Value.pointer (some ⟨w.heap.size,0,none⟩),Value.int IntKind.i64 0,Value.pointer (some ⟨w.heap.size+1,0,none⟩),Value.pointer (some ⟨w.heap.size+1+1,0,none⟩),Value.bool false,Value.int IntKind.i64 0,.int .i64 x.1,Value.pointer (some ⟨pb,0,none⟩),Value.func (Fn.func 217) #[] #[Value.pointer (some ⟨A1,0,none⟩),Value.pointer (some ⟨A,0,none⟩)],.int .i64 x.1,undef,undef,undef,undef,undef,undef,undef,undef,undef,undef,undef,undef,undef,undef,undef,undef,undef,undef,undef,undef,undef,undef,undef,undef,undef,undef,undef,undef,undef,undef,undef,undef,undef,undef,undef,undef,undef,undef,undef,undef,undef,undef],defers:=[]})
  ?assign ?body ?done ?stop
 case assign=>
  intro l x W K hK
  gi_wp2
  exact hK
 case body=>
  rintro l pre x W ⟨g,hz⟩ _;obtain ⟨q1,q2,q3,q4⟩:=subG g;have d0:W.cell? ⟨w.heap.size,0,none⟩=some (.pointer (some ⟨pb,0,none⟩)):=Fh q3;have d1:W.cell? ⟨pb,0,none⟩=some (.slice (some ⟨lb,lo,none⟩) len lc):=hlane W q1;have xl:x.1.toNat<len:=by have:=x.2;omega
  have x0:=x.2;have d2:W.cell? ⟨lb,lo+x.1.toNat,none⟩=some (.pointer (some (ptr x.1.toNat))):=hptr _ xl W q1;have hc:=hlen _ xl W q1;by_cases hv:eh x.1.toNat=0
  ·rw [hv] at hc
   gi_wp2_with (refine ⟨trivial,?_⟩;gi_at_call 198;refine (CallsIn.inRound l (callsIn_wide.2 hc)).mono ?_;rintro e W3 ⟨rfl,hB3⟩)
   have hlt:∀b o,W.heap[b]? =some o->W3.heap[b]? =some o:=λb o e=>(hB3.block b (Lf.ic e)).trans e;have gsz:=g.size;refine ⟨⟨hB3.size,λb o e _=>hlt b o e⟩,⟨za (hB3.block _ (by omega)),za (hB3.block _ (by omega))⟩,⟨λb hb hne=>(hB3.block b (by omega)).trans (g.same b hb hne),hlt _ _ g.box,Nat.le_trans g.size hB3.size,hB3.os.trans g.os,hB3.tape.trans g.tape,hB3.output.trans g.output⟩,λy hy=> ?_⟩;grind
  ·have hv2:0<eh x.1.toNat:=Nat.pos_of_ne_zero hv
   gi_wp2_with (refine ⟨trivial,?_⟩;gi_at_call 198;refine (CallsIn.inRound l (callsIn_wide.2 hc)).mono ?_;rintro e W3 ⟨rfl,hB3⟩;have hb3:=(hB3.block _ (Lf.ic g.box)).trans g.box;have hcb:W3.cell? ⟨w.heap.size+1,0,none⟩=some (.int .i64 (-1)):=Fh hb3;have hfb:W3.frozen? ⟨w.heap.size+1,0,none⟩=false:=Yf hb3)
   have gsz:=g.size;refine ⟨⟨Nat.le_trans hB3.size (KeepsOthers.setCell _ _ _).size,λb o e ho=>(KeepsOthers.setCell _ _ _).same b o ((hB3.block b (Lf.ic e)).trans e) ho⟩,rfl,pre,x,rfl,hz,hv,?_⟩;have hset:(W3.setCell ⟨w.heap.size+1,0,none⟩ (.int .i64 x.1))=(W3.setCell ⟨w.heap.size+1,0,none⟩ (.int .i64 x.1)):=rfl;refine ⟨λb hb hne=> ?_,?_,?_,hB3.os.trans g.os,hB3.tape.trans g.tape,hB3.output.trans g.output⟩
   ·rw [aab hne];exact (hB3.block b (by omega)).trans (g.same b hb hne)
   ·exact aa9 hb3
   ·exact Nat.le_trans g.size (Nat.le_trans hB3.size (KeepsOthers.setCell _ _ _).size)
 case done=>
  rintro D ys W hD rfl ⟨g,hz⟩ hK2
  gi_wp2
  refine tail (x7:=undef) (x8:=Value.pointer (some ⟨pb,0,none⟩)) (x9:=Value.func (Fn.func 217) #[] #[Value.pointer (some ⟨A1,0,none⟩),Value.pointer (some ⟨A,0,none⟩)]) (x10:=undef) g hD hK2 (hno λj hj=>hz _ ?_);exact List.mem_map.2 ⟨j,List.mem_range.2 hj,rfl⟩
 case stop=>
  rintro D c pre W hD hSp ⟨rfl,pre',x,h1,h2,h3,g⟩ hK2
  gi_wp2
  obtain ⟨k1,hk1,e1⟩:=hSp;rw [h1] at e1;cases k1 with
  | zero=>simp [oh] at e1
  | succ j=>
   rw [kH] at e1;obtain ⟨e2,e3⟩:=List.append_inj' e1 rfl;have e3:x=num j:=by simpa using e3
   refine tail (x7:=undef) (x8:=Value.pointer (some ⟨pb,0,none⟩)) (x9:=Value.func (Fn.func 217) #[] #[Value.pointer (some ⟨A1,0,none⟩),Value.pointer (some ⟨A,0,none⟩)]) (x10:=undef) g hD hK2 ?_;rw [e3];refine hyes j (by omega) (λi hi=> ?_) (by grind);exact h2 _ (by rw [e2];exact List.mem_map.2 ⟨i,List.mem_range.2 hi,rfl⟩)
end Go.Proofs
namespace Lf
open Go Go.Proofs Go.RowKit
def Dn (P:Program) (p:Option Addr) (lane:Int) (Q:(Int->(Int->(bp->(Bool->(Int->(Hp->Prop))))))) (h:Hp):Prop:=
 (if (decide (lane<(0:Int)))=true then
 Q (0:Int) (0:Int) ⟨(0:Int),(0:Int)⟩ false (21:Int) h
 else
 aj none p λd=>
 aD none af h (Addr.add d 0) λx=>
 (((x.len:Nat):Int)≠(0:Int)/\aj none p λe=>
 cl h (Addr.add e 1) [(.int .i64 (Int.tmod (yw (lane+(1:Int))) ((x.len:Nat):Int)))] (λa=>
 aj none p λf=>
 aD none af a (Addr.add f 0) λb=>
 ((aG b.base b.len lane)/\aD none an a (sat b.base 1 lane) λj=>
 pI P ZO [(.pointer j)] (ab .i64) aF aW (ab .i64) (λr g r2 i c=>
 ((True/\True)/\Q r lane g r2 i c)) a))))
theorem JZ (p:Option Addr) (lane:Int) (Q:Int->Int->bp->Bool->Int->Hp->Prop) (h:Hp):rF p lane (λx a=>Q x.1 x.2.1 x.2.2.1 x.2.2.2.1 x.2.2.2.2 a) h=Dn Tryz.prog p lane Q h:=by kernel_rfl
section
variable {h0 k:Hp}
theorem Of {h:Hp} {a:Addr} {b:List Value} {i:Nat} {v:Value} (l:aR h a b) (e:b[i]? =some v):dh h (a.add i)=some v:=l i v e
theorem aba {P:Program} {g:FuncId} {args:List Value} {sh:Shape} {K:sh.T->Hp->Prop} {w:World} (c:Sub k w) (f:aa P g args sh (λx a=>a=k/\K x a) k):Calls P g args.toArray w λe d=>∃x,e=.returned (sh.enc x)/\K x k/\Below w.heap.size w d:=by
 refine (f w c).mono ?_;rintro e d ⟨v,a,rfl,⟨x,rfl,rfl,h⟩,st⟩;refine ⟨x,rfl,h,st.os,st.tape,st.output,st.size,λb hb=> ?_⟩;cases e:a b with
 | none=>exact (st.cT b hb e).1
 | some o=>rw [st.sub b o e,c b o e]
theorem Aa {a:Type} {l:List a} {i:Nat} {d:a} (h:i<l.length):l[i]? =some (l.getD i d):=by grind
theorem K7 {b:Type} {f:b->Value}:∀ {l:List b},l.flatMap (λa=> [f a])=l.map f
 | []=>rfl
 | a::r=>by rw [List.flatMap_cons,K7,List.map_cons];rfl
theorem TP {a:Type} {n:Nat} {f:Nat->a} {q:a->Bool} (h:∀j,j<n->q (f j)=false):((List.range n).map f).find? q=none:=by grind
theorem TQ {a:Type} {n:Nat} {f:Nat->a} {q:a->Bool} {j:Nat} (c:j<n) (h:∀i,i<j->q (f i)=false) (b:q (f j)=true):((List.range n).map f).find? q=some (f j):=by
 have e:List.range n=List.range j++j::(List.range (n-j-1)).map (λi=>j+1+i):=by rw [show n=j+(1+(n-j-1)) by omega,List.range_add,List.range_add];simp [Nat.add_assoc]
 grind
theorem Og :zv:=by
 intro h0 k p room ag f Q o hl d0 c0 c5;obtain ⟨x,s,Z,G,C⟩:=o.nO;obtain ⟨q,rfl,c9,d1⟩:=(Has.left C).qw;have b9:=C.right.left.iy;have c3:Rw k 1 eP x.ae s:=C.right.left.jW λ_=>rfl;have R:0<f.length:=by omega
 obtain ⟨J,lo,c8,b8⟩:∃J lo,x.ae.base=some ⟨J,lo,none⟩/\aR k ⟨J,lo,none⟩ (s.flatMap eP):=by
  obtain ⟨_,F,⟨q1,q2,q3⟩,_⟩:=C.right.left;rcases q3 with ⟨h,_⟩ | ⟨b,off,cs,h1,_⟩
  ·omega
  ·rcases c3.2.2 with h | ⟨a,h3,h4⟩
   ·omega
   grind
 have b6:∀j,j<f.length->(s.flatMap eP)[j]? =some (.pointer (some (s.getD j a0))):=λj l=>by rw [show s.flatMap eP=s.map λa=>Value.pointer (some a) from K7,List.getElem?_map,Aa (d:=a0) (by omega)];rfl
 have D:Has h0 (dJ Px ⟨q,0,none⟩ x) k:=Has.left C;have b7:dh k ⟨q,0,none⟩=some x.ae.v:=Of (i:=0) (D.eM (off:=0) (n:=2) (vs:=[x.ae.v,.int .i64 x.ag]) rfl) rfl;have c1:Has h0 (dT ⟨q,0,none⟩ room f ag) k:=C.kF Z G;let num:Nat->F9 f.length:=λj=>⟨(((ag.toNat+j)%f.length:Nat):Int),by omega,by have:=Nat.mod_lt (ag.toNat+j) R;omega⟩;let eh:Nat->Nat:=λj=>(f.getD j mo).values.length;have P:∀j,j<f.length->((match f[(ag.toNat+j)%f.length]? with | some x=> !x.values.isEmpty | none=>false)=true↔eh (num j).1.toNat≠0):=λj l=>by have H:=Nat.mod_lt (ag.toNat+j) R;grind
 have key:s9 Tryz.prog ZK [.pointer (some ⟨q,0,none⟩)] (λv g=>∃x,v=(bC tb Tryz.f152.resultTypes.toList).enc x/\(λ(x:(Ad (ab .i64) (ab .i64) aF aW (ab .i64)).T) g=>Q x.1 x.2.1 x.2.2.1 x.2.2.2.1 x.2.2.2.2 g) x g) k:=by
  intro w hs;refine Yg (len:=f.length) (ag:=ag) (ptr:=λj=>s.getD j a0) (eh:=eh) (num:=num) hs ⟨R,by omega⟩ (λj l=> ?_) (λW B=> ?_) J lo x.ae.cap (λW B=> ?_) (λj l W B=> ?_) (λj l W B=> ?_) (λS=> ?_) (λj l S hv=> ?_)
  ·show (Go.RowKit.wrap64 (ag+(j:Int))).tmod (f.length:Int)=(((ag.toNat+j)%f.length:Nat):Int);have:Go.RowKit.wrap64 (ag+(j:Int))=((ag.toNat+j:Nat):Int):=by unfold Go.RowKit.wrap64;omega
   rw [this];rfl
  ·refine (show aa Tryz.prog zwq [an.enc (some ⟨q,0,none⟩)] jV (λv g=>k<=g/\∃A u:Nat,k A=none/\k u=none/\v=⟨217, #[], #[.pointer (some ⟨u,0,none⟩),.pointer (some ⟨A,0,none⟩)]⟩/\aR g ⟨A,0,none⟩ [.int .i64 ag]/\aR g ⟨u,0,none⟩ [.int .i64 (f.length:Int)]) k from ?_) W B |>.mono ?_
   ·refine Ry ?_;unfold zws;refine aP (D.ld (shf:=ab .i64) x.ag (off:=1) rfl ?_);refine aP (D.ld (shf:=af) x.ae (off:=0) rfl ?_);intro b ty hn;have I:=lx (o:=.cells #[Value.int .i64 0] ty (0,0)) hn;have hb:fb (k.set b (.cells #[Value.int .i64 0] ty (0,0))) b [.int .i64 0]:=⟨ty,kK⟩;refine ⟨⟨nr I (D.eM (off:=1) (n:=1) (vs:=[.int .i64 x.ag]) rfl),nr I (D.eM (off:=0) (n:=1) (vs:=[x.ae.v]) rfl),trivial⟩,?_⟩;refine uS hb (off:=0) (new:=[.int .i64 x.ag]) (by simp) λh2 m b5=> ?_;have U:k<=h2:=λc ob e=>m.cT c ob (I c ob e) λhc=>by grind
    refine ⟨⟨nr U (D.eM (off:=0) (n:=1) (vs:=[x.ae.v]) rfl),trivial⟩,?_⟩;intro X yr b0;have l3:=lx (o:=.cells #[Value.int .i64 ((x.ae.len:Nat):Int)] yr (0,0)) b0;refine ⟨Hp.le_trans U l3,b,X,hn,tY U b0,rfl,nr l3 ?_,?_⟩
    ·rw [<-Z];exact b5.fw (off:=0) (n:=1) rfl
    ·have:=Ab (h:=h2) (b:=X) (t:=yr) (cs:=[Value.int .i64 ((x.ae.len:Nat):Int)]);grind
   ·rintro e W' ⟨v,g,rfl,⟨fv,rfl,kl,A,u,nA,c6,rfl,lA,b1⟩,st⟩;have M:∃o,g A=some o:=by
     have:=lA 0 _ rfl;cases e:g A with
     | some o=>simp
     | none=>simp [dh,e,Addr.add] at this
    have N:∃o,g u=some o:=by
     have:=b1 0 _ rfl;cases e:g u with
     | some o=>simp
     | none=>simp [dh,e,Addr.add] at this
    obtain ⟨oA,M⟩:=M;obtain ⟨d2,N⟩:=N;refine ⟨A,u,rfl,⟨Nat.le_of_not_lt λH=> ?_,st.sub.lt M⟩,⟨Nat.le_of_not_lt λH=> ?_,st.sub.lt N⟩,vb st.sub (lA 0 _ rfl),vb st.sub (b1 0 _ rfl),st.os,st.tape,st.output,st.size,λb hb=> ?_⟩
    ·have:=(st.cT A H nA).2;grind
    ·have:=(st.cT u H c6).2;grind
    ·cases e:k b with
     | none=>exact (st.cT b hb e).1
     | some o=>rw [st.sub b o (kl b o e),B b o e]
  ·rw [vb B b7];show some (Value.slice x.ae.base x.ae.len x.ae.cap)=_;grind
  ·have:=Of b8 (b6 j l);rw [km] at this;exact vb B this
  ·obtain ⟨h1,I,V,_⟩:=C.nF (Aa (d:=mo) l);refine (aba (sh:=ab .i64) (K:=λr _=>r=((f.getD j mo).values.length:Int)) B (SU (Zd V ⟨rfl,rfl⟩))).mono ?_;grind
  ·refine Eq.mpr (JZ (some ⟨q,0,none⟩) (-1) Q k) ?_;unfold Dn;rw [if_pos (by decide)];refine c0 (TP λj l=> ?_) k c1;have:=P j l;rw [S j l] at this;exact Bool.eq_false_iff.2 λe=>this.1 e rfl
  ·refine Eq.mpr (JZ (some ⟨q,0,none⟩) (num j).1 Q k) ?_;unfold Dn;have c4:=(num j).2;rw [if_neg (by simp;omega)];have O:py ag f=some (num j).1.toNat:=by
    unfold py;rw [TQ l (λi hi=> ?_) ((P j l).2 hv)]
    ·show some ((ag.toNat+j)%f.length)=some ((((ag.toNat+j)%f.length:Nat):Int)).toNat;rw [Int.toNat_natCast]
    ·have:=P i (by omega);rw [S i hi] at this;exact Bool.eq_false_iff.2 λe=>this.1 e rfl
   generalize (num j).1=y at c4 O hv;obtain ⟨i,rfl⟩:∃i:Nat,y=(i:Int):=⟨y.toNat,by omega⟩;rw [Int.toNat_natCast] at O hv;have hi:i<f.length:=by omega
   refine aP (D.ld (shf:=af) x.ae (off:=0) rfl ⟨by omega,?_⟩);obtain ⟨g1,_,oR,put⟩:=C.f1;have b4:Int.tmod (yw ((i:Int)+1)) ((x.ae.len:Nat):Int)=((i+1:Nat):Int)%(f.length:Int):=by rw [aI,b9,G];rfl
   rw [b4];refine aP (oR.st ({x with ag:=((i+1:Nat):Int)%(f.length:Int)}:dk) (off:=1) (new:=[.int .i64 (((i+1:Nat):Int)%(f.length:Int))]) (by show 1+1<=2;omega) rfl λk2 o2=> ?_);have c7:=put _ _ o2;refine aP (o2.ld (shf:=af) x.ae (off:=0) rfl ?_);have b3:Has h0 (iz ⟨q,0,none⟩ {x with ag:=((i+1:Nat):Int)%(f.length:Int)} s room f) k2:=c7;refine b3.ptr G hi ?_;obtain ⟨g2,_,V,ki⟩:=b3.nF (Aa (d:=mo) hi);have a8:=Aa (d:=mo) hi;have a9:=hl.2 _ (List.mem_of_getElem? a8);have c2:∀ {l' E},Has g2 (dK (s.getD i a0) room l') E->Has h0 (dT ⟨q,0,none⟩ room (f.set i l') (((i+1:Nat):Int)%(f.length:Int))) E:=λL=>(ki _ _ L).kF rfl (by rw [List.length_set];exact G);refine Sf (U4 V a9.1 a9.2 (λe=> ?_) (λv vs E e Y L=>⟨⟨trivial,trivial⟩,?_⟩) λv vs z zs E e Y L=>⟨⟨trivial,trivial⟩,?_⟩)
   ·exact absurd (congrArg List.length e) hv
   ·have:=c5 i _ v vs O a8 e E (c2 L);rw [Y] at this;exact this
   grind
 exact key
end
end Lf
namespace Lf
open Go Go.Proofs Tryz
section
variable {c:bd} {t:fe} {s:MS}
theorem Oh (m:cP c):lZ c t↔qJ c t λi y=>jO c i y.toNat=true:=by
 have key:∀(p:Nat) x y,t.procs[p]? =some x->c.procs[p]? =some y->(mT c t (λ(i:Nat) q=>fl c.labels (i:Int) q=true) x y↔mT c t (λi y=>jO c i y.toNat=true) x y):=λp x y _ a=>by
  have hp:=(m.part y (List.mem_of_getElem? a)).1;have e:∀i:Nat,jO c i y.part.toNat=fl c.labels (i:Int) y.part:=λi=>by unfold jO;rw [show ((y.part.toNat:Nat):Int)=y.part by omega]
  unfold mT;simp only [e]
 unfold lZ qJ;constructor
 ·rintro ⟨d,f,g,h⟩;exact ⟨d,f,λp x y b a=>(key p x y b a).1 (g p x y b a),h⟩
 ·rintro ⟨d,f,g,h⟩;exact ⟨d,f,λp x y b a=>(key p x y b a).2 (g p x y b a),h⟩
theorem wq {h:Hp} {y:aB} (b:cW h y t):∀x∈t.procs,x.aO.length=8:=λx g=>by
 obtain ⟨d,_,e⟩:=b.procs;obtain ⟨i,hi⟩:=List.mem_iff_getElem?.1 g;have:∃z,d[i]? =some z/\dV h z x:=by have j:=e.len;have k:=(List.getElem?_eq_some_iff.1 hi).1;obtain ⟨z,f,a⟩:=e.get (i:=i) (List.getElem?_eq_getElem (show i<d.length by omega));rw [hi] at f;cases f;exact ⟨_,List.getElem?_eq_getElem (show i<d.length by omega),a⟩
 obtain ⟨z,_,a⟩:=this;rw [<-a.aO];rfl
end
section
variable {k:Hp} {x:aw} {y:aB} {c:bd} {t:fe}
structure sj (k:Hp) (c:bd) (t:fe) (pm:Addr) (k':Hp):Prop where
 ex:∃K tm h1,K.c=c/\dD h1 K/\k<=h1/\Has h1 (aJ K pm (cq t) tm) k'/\eH c tm (cq t)
 iw:Good c (jO c) (cq t) No No t.tick
 parts:t.parts.length=nP c
 procs:t.procs.length=nQ c
theorem Yi {Q:Option Addr->Int->Hp->Prop} (a:eo k x c) (u:∀l∈c.labels,lW l) (q:∀b,k<=b->(fq c).1≠0->Q none (fq c).1 b)
  (s:∀pm b,(fq c).1=0->k<=b->sj k c ((xA c).list c) pm b->Q (some pm) 0 b):zyd prog x Q k:=by
 unfold zyd;refine JH (LG a λv f=> ?_);by_cases d:(fq c).1=0
 ·rw [d,if_neg (by decide)];have e:=zW d;refine SJ (VV (a.mono f) e λr B w j=>⟨⟨trivial,trivial⟩,?_⟩);have hp:((xA c).list c).parts.length=nP c:=by show ((List.range (nP c)).map _).length=_;simp
  have i:((xA c).list c).procs.length=nQ c:=by show ((List.range (nQ c)).map _).length=_;simp
  have h:=Hp.le_trans f w;have g:=E6 e (Good.may e (Good.first (fl:=jO c) e) (by show (0:Int)<=_;decide)) (wq j);refine TD (Yc (a.mono h) j u d (Yd e g hp i) λK pm A p b n mk m o z=>s pm b d (Hp.le_trans h (Hp.le_trans m o.le)) ⟨⟨K,A,p,n,mk,Hp.le_trans h m,o,z⟩,g,hp,i⟩)
 ·rw [if_pos (by simpa using d)];exact q v f d
end
section
variable {c:bd} {s:MS} {t:fe}
theorem Yj {i:Nat} (hi:i<nP c):(cq (s.list c)).part i=s.part i:=by show ((List.range (nP c)).map s.part).getD i mX=_;grind
theorem J1 {i:Nat} (hi:i<nQ c):(cq (s.list c)).proc i=s.proc i:=by show ((List.range (nQ c)).map s.proc).getD i jB=_;grind
theorem Q8 :(s.list c).parts.length=nP c:=by show ((List.range (nP c)).map _).length=_;simp
theorem Ra :(s.list c).procs.length=nQ c:=by show ((List.range (nQ c)).map _).length=_;simp
theorem Dm {K:MK} {pm:Addr} {a:Nat->Nat->Int} (e:K.c=c):aJ K pm (cq (s.list c)) a=aJ K pm s a:=by
 subst e;unfold aJ;have b:dR.first (λi=>pJ K i ((cq (s.list K.c)).part i) (a i)) (nP K.c)=dR.first (λi=>pJ K i (s.part i) (a i)) (nP K.c):=tW λi hi=>by rw [Yj hi]
 have d:dR.first (λp=>pL K p ((cq (s.list K.c)).proc p)) (nQ K.c)=dR.first (λp=>pL K p (s.proc p)) (nQ K.c):=tW λi hi=>by rw [J1 hi]
 rw [b,d];rfl
theorem D4 {a:Nat->Nat->Int} (b:eH c a s):eH c a (cq (s.list c)):=λi id hi=>by
 rw [b i id hi];unfold nu;by_cases h:id / 2<nQ c/\aH c (id / 2)=i
 ·rw [if_pos h,if_pos h,J1 h.1]
 omega
theorem Yk (f:jK c (cq t)) (m:cP c) (hp:t.parts.length=nP c) (d:t.procs.length=nQ c):lK t:=by
 have h:=m.parts;have j:=m.procs;refine ⟨by omega,by omega,λx a=> ?_,λx a=> ?_⟩
 ·obtain ⟨i,hi⟩:=List.mem_iff_getElem?.1 a;have g:=(List.getElem?_eq_some_iff.1 hi).1;have e:(cq t).part i=x:=pD hi;have sp:=f.part i (by omega);rw [e] at sp;have:=sp.kg;have:=sp.im;have:=sp.iC.1;exact ⟨by omega,by omega,by omega,λq d=>by have:=sp.iC.2 q d;omega⟩
 ·obtain ⟨i,hi⟩:=List.mem_iff_getElem?.1 a;have g:=(List.getElem?_eq_some_iff.1 hi).1;have e:(cq t).proc i=x:=pD hi;have sp:=f.proc i (by omega);rw [e] at sp;have:=sp.len;exact ⟨by omega,λl b=>⟨by have:=(sp.dY l b).values;omega,by have:=(sp.dY l b).waiters;omega⟩⟩
end
def Gz (a:MK) (n:Option Addr) (t2:fe) (b:Nat->Nat->Int):dR:=match n with
 | none=>.fact True
 | some p=>aJ a p (cq t2) b
structure ft (h k:Hp) (c:bd) (t1 t2:fe) (pm:Addr) (n:Option Addr):Prop where
 ex:∃K tm K2 tm2,K.c=c/\dD h K/\eH c tm (cq t1)/\(n≠none->K2.c=c/\dD h K2/\eH c tm2 (cq t2))/\Has h ((aJ K pm (cq t1) tm).star (Gz K2 n t2 tm2)) k
section
variable {h k:Hp} {c:bd} {t1 t2 t:fe} {pm a:Addr} {n:Option Addr}
theorem ft.le (q:ft h k c t1 t2 pm n):h<=k:=by obtain ⟨_,_,_,_,_,_,_,_,o⟩:=q.ex;exact o.le
theorem sj.pair (q:sj k c t pm h):∃b,k<=b/\ft b h c t t pm none:=by obtain ⟨K,d,b,e,mk,l,o,g⟩:=q.ex;exact ⟨b,l,⟨K,d,K,d,e,mk,g,λf=>absurd rfl f,o.beside (Has.fact trivial (Hp.le_refl _))⟩⟩
theorem ft.one (q:ft h k c t1 t2 pm n):∃K f b,K.c=c/\dD b K/\eH c f (cq t1)/\h<=b/\Has b (aJ K pm (cq t1) f) k/\∀d g i,Has b (aJ K pm d g) i->eH c g d->ft h i c (d.list c) t2 pm n:=by obtain ⟨K,f,l,v,e,mk,s,m,o⟩:=q.ex;obtain ⟨b,j,r,_,put⟩:=o.fst;refine ⟨K,f,b,e,mk.mono j,s,j,r,λd g i p u=>⟨K,g,l,v,e,mk,D4 u,m,?_⟩⟩;rw [Dm e];exact put _ _ p
theorem ft.two (q:ft h k c t1 t2 pm (some a)):∃K f b,K.c=c/\dD b K/\eH c f (cq t2)/\h<=b/\Has b (aJ K a (cq t2) f) k/\∀d g j,Has b (aJ K a d g) j->eH c g d->ft h j c t1 (d.list c) pm (some a):=by obtain ⟨K,f,l,y,e,mk,v,r,o⟩:=q.ex;obtain ⟨i,p,x⟩:=r (by simp);obtain ⟨b,m,u,_,put⟩:=o.snd;refine ⟨l,y,b,i,p.mono m,x,m,u,λd g j s w=>⟨K,f,l,g,e,mk,v,λ_=>⟨i,p,D4 w⟩,?_⟩⟩;unfold Gz;dsimp only;rw [Dm i];exact put _ _ s
theorem ft.base {P:Program} {g:FuncId} {args:List Value} {sh:Shape} {K0 K:sh.T->Hp->Prop} (q:ft h k c t1 t2 pm n) (m:aa P g args sh (λx h'=>h<=h'/\K0 x h') h) (p:∀x h' b,h<=h'->K0 x h'->ft h' b c t1 t2 pm n->K x b):aa P g args sh K k:=by obtain ⟨i,u,j,v,e,mk,s,d,o⟩:=q.ex;refine yL o m ?_;rintro x h' b ⟨l,h0⟩ r;exact p x h' b l h0 ⟨i,u,j,v,e,mk.mono l,s,λf=>⟨(d f).1,(d f).2.1.mono l,(d f).2.2⟩,r⟩
theorem ft.grow {b:Hp} (q:ft h k c t1 t2 pm n) (l:k<=b):ft h b c t1 t2 pm n:=by obtain ⟨d,j,f,m,e,mk,i,g,o⟩:=q.ex;exact ⟨d,j,f,m,e,mk,i,g,o.grow l⟩
theorem ft.alone (q:ft h k c t1 t2 pm n):ft h k c t1 t1 pm none:=by obtain ⟨b,d,i,l,e,mk,g,j,o⟩:=q.ex;exact ⟨b,d,b,d,e,mk,g,λf=>absurd rfl f,(Has.left o).beside (Has.fact trivial (Hp.le_refl _))⟩
theorem TR {s:MS} {p v:Int}:TW (ve c s p v).1=TW s:=by
 unfold ve;split
 ·rfl
 ·split
  ·exact rU rfl
  ·exact Fg rfl
end
section
variable {h k:Hp} {c:bd} {t1 t2 t:fe} {pm a:Addr} {n:Option Addr}
theorem ft.BT {Q:aB->Hp->Prop} (q:ft h k c t1 t2 pm n) (j:cP c) (g:Good c (jO c) (cq t1) No No t1.tick) (hp:t1.parts.length=nP c) (w:t1.procs.length=nQ c)
  (v:∀r d b,h<=d->cW d r t1->ft d b c t1 t2 pm n->Q r b):Fy prog (some pm) Q k:=by
 obtain ⟨K,C,p,D,rfl,mk,m,e,o⟩:=q.ex;obtain ⟨E,x,y,_,put⟩:=o.fst;refine MQ (mk.mono x) j y (g.pn j) m λr b l=> ?_;rw [yW hp w] at l;have z:=Has.carry (put _) l;obtain ⟨s,i,A,⟨F,⟨B,u,_⟩,_⟩,_⟩:=z.fst;exact v r s b i u.rd ⟨K,C,p,D,rfl,mk.mono i,m,λf=>⟨(e f).1,(e f).2.1.mono i,(e f).2.2⟩,A⟩
def tQ (c:bd) (t:fe):fe:=(mC c gK (jO c) (cq t)).list c
def BA (c:bd) (t:fe) (p v:Int):fe:=(ve c (cq t) p v).1.list c
def vS (c:bd) (t:fe) (p:Int):fe:=(kC c (cq t) p).1.list c
theorem ft.GP {Q:Int->Hp->Prop} (q:ft h k c t1 t2 pm n) (f:cP c) (g:Good c (jO c) (cq t1) No No t1.tick) (e:t1.tick<4611686018427387904) (d:∀b,ft h b c (tQ c t1) t2 pm n->Q (nt c t1.tick:Int) b):Jk prog (some pm) Q k:=by obtain ⟨K,r,o,rfl,mk,l,p,j,put⟩:=q.one;exact Oc Og mk f j g e l λs b i m=>d b (put _ _ _ i m)
theorem ft.P2 {p v:Int} {Q:Int->Hp->Prop} (q:ft h k c t1 t2 pm n) (d:cP c) (g:Good c (jO c) (cq t1) No No t1.tick) (e:∀b,ft h b c (BA c t1 p v) t2 pm n->Q (ve c (cq t1) p v).2 b):OK prog (some pm) p v Q k:=by obtain ⟨K,l,m,rfl,mk,j,o,i,put⟩:=q.one;exact Q1 mk d i (g.pn d) λb f=>e b (put _ l _ f (j.cT TR))
theorem ft.Gn {p:Int} {Q:Int->Hp->Prop} (q:ft h k c t1 t2 pm n) (d:cP c) (g:Good c (jO c) (cq t1) No No t1.tick) (e:∀b,ft h b c (vS c t1 p) t2 pm n->Q (kC c (cq t1) p).2 b):OO prog (some pm) p Q k:=by obtain ⟨K,r,m,rfl,mk,j,o,i,put⟩:=q.one;exact VT mk d i (g.pn d) j λs b f l=>e b (put _ _ _ f l)
end
section
variable {c:bd} {s:MS} {t:fe}
structure GT (c:bd) (t:fe):Prop where
 iw:Good c (jO c) (cq t) No No t.tick
 parts:t.parts.length=nP c
 procs:t.procs.length=nQ c
theorem GT.of (m:cP c) (g:Good c (jO c) s No No s.tick) (a:s.tick<=4611686018427387904):GT c (s.list c):=
 ⟨E6 m (Good.may m g a) λx b=>by
  obtain ⟨p,hp,rfl⟩:=List.mem_map.1 b;exact (g.proc p (List.mem_range.1 hp)).aO,Q8,Ra⟩
theorem TS {D:Int->Int->Int->Int} (m:cP c) {fl:Nat->Nat->Bool} (g:Good c fl s No No s.tick):(mC c D fl s).tick=s.tick+1:=by have b:=(g.wH (T':=s.tick+1) (by omega)).due (i:=nt c s.tick);obtain ⟨_,a⟩:=Good.turns (D:=D) m (m.mP (t:=s.tick)) c.fuel.toNat b rfl;have a:(oy c D fl (nt c s.tick) c.fuel.toNat (jN c s (nt c s.tick))).tick=s.tick:=a;show (oy c D fl (nt c s.tick) c.fuel.toNat (jN c s (nt c s.tick))).tick+1=_;rw [a]
theorem GT.tick (m:cP c) (g:GT c t) (a:t.tick<4611686018427387904):GT c (tQ c t)/\(tQ c t).tick=t.tick+1:=by have e:(mC c gK (jO c) (cq t)).tick=t.tick+1:=TS m g.iw;exact ⟨GT.of m (g.iw.GR m) (by omega),e⟩
theorem GT.inj (m:cP c) (g:GT c t) (a:t.tick<=4611686018427387904) {p v:Int}:GT c (BA c t p v)/\(BA c t p v).tick=t.tick:=by have e:(ve c (cq t) p v).1.tick=t.tick:=aax;exact ⟨GT.of m (by rw [e];exact g.iw.BB) (by omega),e⟩
theorem GT.kill (m:cP c) (g:GT c t) (a:t.tick<=4611686018427387904) {p:Int}:GT c (vS c t p)/\(vS c t p).tick=t.tick:=by have e:(kC c (cq t) p).1.tick=t.tick:=Sa;exact ⟨GT.of m (by rw [e];exact g.iw.kill m) (by omega),e⟩
theorem GT.le (m:cP c) (g:GT c t):lK t:=Yk (g.iw.pn m) m g.parts g.procs
theorem GT.may (m:cP c) (g:GT c t) (a:t.tick<=4611686018427387904):lZ c t:=by have:=Good.may m g.iw a;rw [yW g.parts g.procs] at this;exact (Oh m).2 this
theorem VW (m:cP c):GT c ((xA c).list c)/\((xA c).list c).tick=0:=⟨GT.of m (Good.first m) (by show (0:Int)<=_;decide),rfl⟩
end
section
variable {h k:Hp}
theorem Fq {a:Type} {b:Bool} {A:(a->Hp->Prop)->Hp->Prop} {K:a->Hp->Prop} (hb:b=true) (c:A K h):bX (some b) A K h:=⟨λ_=>c,λe=>(by grind)⟩
end
structure pO (s:fe):Prop where
 parts:s.parts.length<=1000
 procs:s.procs.length<=1000
 log:∀x∈s.parts,x.log.length<=10000/\x.av.length<=1000/\x.ah.length<=1000/\∀q∈x.ah,q.length<=1000
 ae:∀x∈s.procs,x.ae.length<=1000/\∀l∈x.ae,l.values.length<=1000/\l.waiters.length<=1000
theorem pO.le {s:fe} (f:pO s):lK s:=by
 refine ⟨by have:=f.parts;omega,by have:=f.procs;omega,λx b=> ?_,λx b=> ?_⟩
 ·obtain ⟨d,a,h,e⟩:=f.log x b;exact ⟨by omega,by omega,by omega,λq g=>by have:=e q g;omega⟩
 ·obtain ⟨d,a⟩:=f.ae x b;exact ⟨by omega,λl c=>⟨by have:=(a l c).1;omega,by have:=(a l c).2;omega⟩⟩
theorem GT.iC {c:bd} {t:fe} (m:cP c) (g:GT c t):pO t:=by
 have f:=g.iw.pn m;have hp:=g.parts;have d:=g.procs;have j:=m.parts;have k:=m.procs;refine ⟨by omega,by omega,λx a=> ?_,λx a=> ?_⟩
 ·obtain ⟨i,hi⟩:=List.mem_iff_getElem?.1 a;have h:=(List.getElem?_eq_some_iff.1 hi).1;have e:(cq t).part i=x:=pD hi;have sp:=f.part i (by omega);rw [e] at sp;have:=sp.kg;have:=sp.im;have:=sp.iC.1;have:=m.log;exact ⟨by omega,by omega,by omega,λq d=>by have:=sp.iC.2 q d;omega⟩
 ·obtain ⟨i,hi⟩:=List.mem_iff_getElem?.1 a;have h:=(List.getElem?_eq_some_iff.1 hi).1;have e:(cq t).proc i=x:=pD hi;have sp:=f.proc i (by omega);rw [e] at sp;have:=sp.len;exact ⟨by omega,λl b=>⟨by have:=(sp.dY l b).values;omega,by have:=(sp.dY l b).waiters;omega⟩⟩
section
end
section
end
end Lf
namespace Lf
open Go Go.Proofs Go.ChangeShapes Go.WideShapes Go.ChangeAt Go.RowKit
section
variable {H:Type} {enc:TypeId×Value->H} {W:World}
abbrev vH :dZ->List Value:=λx=>ba (fz.enc x)
theorem Zn :fR enc Tryz.prog W 65 λa=>∃x,a=vH x/\(iE x.Kind/\iE x.N/\iE x.V):=λf a y h c=>by have b:=bW.cm 65 Ij rfl;have d:=xz b h;rw [show Tryz.prog.cellsOf 65=3 by kernel_rfl] at d;obtain ⟨a0,g,l⟩:=iQ b h c (i:=0) (off:=0) rfl rfl fE li;obtain ⟨a1,j,n⟩:=iQ b h c (i:=1) (off:=1) rfl rfl fE li;obtain ⟨a2,k,o⟩:=iQ b h c (i:=2) (off:=2) rfl rfl xQ qp;refine ⟨⟨a0,a1,a2⟩,?_,od l,od n,od o⟩;have e:a=a.drop 0:=rfl;rw [e,ir (m:=1) g rfl,ir (m:=2) j rfl,ir (m:=3) k rfl,List.drop_of_length_le (Nat.le_of_eq d)];rfl
end
end Lf
namespace Lf
open Go
theorem least {p:Nat->Prop} (h:∃n,p n):∃n,p n/\∀m,p m->n<=m:=by
 obtain ⟨n,e⟩:=h
 induction n using Nat.strongRecOn with
 | _ n f=>
  by_cases a:∃m,m<n/\p m
  ·obtain ⟨m,b,c⟩:=a;exact f m b c
  ·exact ⟨n,e,λm hp=>Nat.le_of_not_lt λd=>a ⟨m,d,hp⟩⟩
end Lf
namespace Lf
open Go Go.Proofs Tryz
section
variable {h0 k:Hp} {A B C D X:dR}
theorem Yl {d:Hp} {K:MK} {pm:Addr} {t:fe} {e:Nat->Nat->Int} {Q:aB->Hp->Prop} (mk:dD d K) (f:cP K.c) (g:GT K.c t) (q:eH K.c e (cq t)) (o:Has d (aJ K pm (cq t) e) k)
  (put:∀a,Has d (aJ K pm (cq t) e) a->Has h0 X a) (l:∀r b a,h0<=b->cW b r t->Has b X a->Q r a):Fy prog (some pm) Q k:=by
 refine MQ mk f o (g.iw.pn f) q λr a h=> ?_;rw [yW g.parts g.procs] at h;have n:=Has.carry (X:=X) put h;obtain ⟨i,m,p,⟨F,⟨B,j,_⟩,_⟩,_⟩:=n.fst;exact l r i a m j.rd p
end
section
variable {h k:Hp}
theorem Rw.pre {d:Type} {sz:Nat} {enc:d->List Value} {l:Sl} {b n:List d} {c:Nat} (r:Rw h sz enc l (b++n)) (j:∀x,(enc x).length=sz):Rw h sz enc ⟨l.base,b.length,c⟩ b:=by
 obtain ⟨o,p,f⟩:=r;refine ⟨rfl,iW j b,?_⟩;rcases f with e | ⟨a,g,m⟩
 ·left;rw [List.length_append,Nat.add_mul] at e;omega
 ·right;refine ⟨a,g,λi v hv=>m i v ?_⟩;rw [List.flatMap_append,List.getElem?_append_left (List.getElem?_eq_some_iff.1 hv).1];exact hv
end
section
variable {h:Hp} {Q:Bool->Hp->Prop}
theorem Rs.mh {sh shf:Shape} {sz:Nat} {s:Sl} {xs:List sh.T} (r:Rs h sh sz s xs) (f:∀x,(ba (sh.enc x)).length=sz) (n:0<sz) {i:Nat} {off:Nat} (hi:i<xs.length) (g:sh.T->shf.T) (k:∀x,((ba (sh.enc x)).drop off).take (ba (shf.enc (g x))).length=ba (shf.enc (g x)))
  {K:shf.T->Prop} (l:∀x,xs[i]? =some x->K (g x)):aG s.base s.len (i:Int)/\aD none shf h ((sat s.base sz (i:Int)).add off) K:=by
 obtain ⟨c,x,b,m⟩:=Rw.read r f n (i:=(i:Int)) (by omega) (by have:=r.1;omega);rw [Int.toNat_natCast] at b;refine ⟨c,g x,λj v a=> ?_,l x b⟩;have d:=k x;rw [<-d] at a;rw [List.getElem?_take] at a;split at a
 ·rw [List.getElem?_drop] at a;have:=m (off+j) v a;have e:=rY (sat s.base sz (i:Int)) off j;rw [e];exact this
 ·cases a
end
section
end
section
variable {h:Hp} {y:aB} {t:fe} {p:Int}
theorem Rc {Q:Int->Hp->Prop} (F:cW h y t) (iC:pO t) {i:Nat} {x:cR} (hi:t.parts[i]? =some x) (I:∀(k:Nat) q,x.ah[k]? =some q->p∈q->Q (k:Int) h) (s:(∀q∈x.ah,p∉q)->Q (-1) h):
  Wa prog y (i:Int) p Q h:=by
 unfold Wa;obtain ⟨G,u,f⟩:=F.parts;have R:=f.len;have O:=(List.getElem?_eq_some_iff.1 hi).1;obtain ⟨z,B,C⟩:∃z,G[i]? =some z/\gR h z x:=by obtain ⟨Y,V,B⟩:=f.get (i:=i) (List.getElem?_eq_getElem (by omega));grind
 obtain ⟨a,o,n⟩:=C.ah;have T:=n.len;have J:=iC.log x (List.mem_of_getElem? hi);have row:∀ {K:Sl->Prop},K z.bI->aG y.bt.base y.bt.len (i:Int)/\aD none af h ((sat y.bt.base 6 (i:Int)).add 5) K:=λd=>
  Rs.mh (sh:=bQ) (shf:=af) (off:=5) u (λ_=>rfl) (by decide) (by omega) (λz:bS=>z.bI) (λ_=>rfl) λw A=>by grind
 refine au.intro (λk b=>b=h/\0<=k/\k<=(a.length:Int)/\∀q∈x.ah.take k.toNat,p∉q) (λk _=>(a.length-k).toNat) ⟨rfl,by omega,by omega,by simp⟩ ?_;rintro k b ⟨rfl,E,X,l⟩;refine row ?_;have N:z.bI.len=a.length:=o.1;by_cases d:k<(a.length:Int)
 ·rw [if_pos (fT)];have H:((k.toNat:Nat):Int)=k:=by omega
  obtain ⟨q,m,r⟩:=n.get (i:=k.toNat) (List.getElem?_eq_getElem (by omega));have U:=List.mem_of_getElem? m;have S:q.length<=1048576:=by grind
  refine au.intro (λj c=>c=b/\0<=j/\j<=(q.length:Int)/\p∉q.take j.toNat) (λj _=>(q.length-j).toNat) ⟨rfl,by omega,by omega,by simp⟩ ?_;rintro j c ⟨rfl,D,W,P⟩;have lane:∀ {K:Sl->Prop},K a[k.toNat]->aG z.bI.base z.bI.len k/\aD none af c (sat z.bI.base 1 k) K:=λL=>
   Rs.get (sh:=af) o (λ_=>rfl) (by decide) E d λw A=>by grind
  refine row (lane ?_);have M:(a[k.toNat]).len=q.length:=r.1;by_cases g:j<(q.length:Int)
  ·rw [if_pos (fT)];refine row (lane ?_);refine Rs.get (sh:=ab .i64) r (λ_=>rfl) (by decide) D g λ(v:Int) hv=> ?_;by_cases e:v=p
   ·grind
   ·rw [if_neg (by simpa using e),aI];refine ⟨⟨rfl,by omega,by omega,?_⟩,by omega⟩;rw [show (j+1).toNat=j.toNat+1 by omega,List.take_add_one,hv];grind
  ·rw [if_neg (λe=>g (by have:=of_decide_eq_true e;omega)),aI];refine ⟨⟨rfl,by omega,by omega,?_⟩,by omega⟩;rw [show (k+1).toNat=k.toNat+1 by omega,List.take_add_one,m];grind
 ·rw [if_neg (λe=>d (by have:=of_decide_eq_true e;omega))];refine s ?_;rw [show k.toNat=x.ah.length by omega,List.take_length] at l;exact l
theorem LL {Q:Int->Hp->Prop} (W:cW h y t) (iC:pO t) (N:∀(r:Nat) x,t.procs[r]? =some x->∀l∈x.ae,∀w∈l.waiters,w.proc=p->Q (r:Int) h) (Y:(∀x∈t.procs,∀l∈x.ae,∀w∈l.waiters,w.proc≠p)->Q (-1) h):
  Wb prog y p Q h:=by
 unfold Wb;obtain ⟨c,H,E⟩:=W.procs;have b1:=E.len;have a9:y.aC.len=c.length:=H.1;have Z:=iC.procs;refine au.intro (λk o=>o=h/\0<=k/\k<=(c.length:Int)/\∀x∈t.procs.take k.toNat,∀l∈x.ae,∀w∈l.waiters,w.proc≠p) (λk _=>(c.length-k).toNat) ⟨rfl,by omega,by omega,by simp⟩ ?_;rintro k o ⟨rfl,k0,k1,S⟩;by_cases hk:k<(c.length:Int)
 ·rw [if_pos (fT)];have D:((k.toNat:Nat):Int)=k:=by omega
  obtain ⟨x,C,T⟩:=E.get (i:=k.toNat) (List.getElem?_eq_getElem (by omega));have U:c[k.toNat]? =some c[k.toNat]:=List.getElem?_eq_getElem (by omega);obtain ⟨f,G,F⟩:=T.ae;have b0:=F.len;have X:=iC.ae x (List.mem_of_getElem? C);have row:∀ {K:Sl->Prop},K (c[k.toNat]).cC->aG y.aC.base y.aC.len k/\aD none af o ((sat y.aC.base 15 k).add 14) K:=λP=>by
   have:=Rs.mh (sh:=aN) (shf:=af) (off:=14) H (λ_=>rfl) (by decide) (show k.toNat<c.length by omega) (λz:bh=>z.cC) (λ_=>rfl) (K:=λv=>v=(c[k.toNat]).cC) λw a=>by rw [U] at a;cases a;rfl
   rw [D] at this;obtain ⟨m,v,n,rfl⟩:=this;exact ⟨m,_,n,P⟩
  refine au.intro (λj q=>q=o/\0<=j/\j<=(f.length:Int)/\∀l∈x.ae.take j.toNat,∀w∈l.waiters,w.proc≠p) (λj _=>(f.length-j).toNat) ⟨rfl,by omega,by omega,by simp⟩ ?_;rintro j q ⟨rfl,j0,j1,B⟩;refine row ?_;have a8:(c[k.toNat]).cC.len=f.length:=G.1;by_cases O:j<(f.length:Int)
  ·rw [if_pos (fT)];obtain ⟨l,u,R⟩:=F.get (i:=j.toNat) (List.getElem?_eq_getElem (by omega));have V:f[j.toNat]? =some f[j.toNat]:=List.getElem?_eq_getElem (by omega);obtain ⟨b,J,L⟩:=R.waiters;have b2:(f[j.toNat]).bB.len=b.length:=J.1;have b3:b.length=l.waiters.length:=by rw [<-L,List.length_map]
   have wf:=(X.2 l (List.mem_of_getElem? u)).2;refine row ?_;have:=Rs.mh (sh:=bD) (shf:=af) (off:=1) G (λ_=>rfl) (by decide) (show j.toNat<f.length by omega) (λz:cd=>z.bB) (λ_=>rfl) (K:=λv=>v=(f[j.toNat]).bB) λw a=>by rw [V] at a;cases a;rfl
   rw [show ((j.toNat:Nat):Int)=j by omega] at this;obtain ⟨m,v,n,rfl⟩:=this;refine ⟨m,_,n,?_⟩;refine au.intro (λi g=>g=q/\0<=i/\i<=(b.length:Int)/\∀w∈l.waiters.take i.toNat,w.proc≠p) (λi _=>(b.length-i).toNat) ⟨rfl,by omega,by omega,by simp⟩ ?_;rintro i g ⟨rfl,i0,i1,A⟩;by_cases hi:i<(b.length:Int)
   ·rw [if_pos (fT)];have M:b[i.toNat]? =some b[i.toNat]:=List.getElem?_eq_getElem (by omega);have I:l.waiters[i.toNat]? =some (pB b[i.toNat]):=by rw [<-L,List.getElem?_map,M];rfl
    have:=Rs.mh (sh:=aF) (shf:=ab .i64) (off:=0) J (λ_=>rfl) (by decide) (show i.toNat<b.length by omega) (λz:bp=>z.bT) (λ_=>rfl) (K:=λv=>v=(b[i.toNat]).bT) λw a=>by rw [M] at a;cases a;rfl
    rw [show ((i.toNat:Nat):Int)=i by omega] at this;obtain ⟨m,v,n,rfl⟩:=this;refine ⟨m,_,n,?_⟩;dsimp only;by_cases e:(b[i.toNat]).bT=p
    ·rw [if_pos (by simpa using e)];have:=N k.toNat x C l (List.mem_of_getElem? u) _ (List.mem_of_getElem? I) e;rw [D] at this;exact this
    ·rw [if_neg (by simpa using e),aI];refine ⟨⟨rfl,by omega,by omega,?_⟩,by omega⟩;rw [show (i+1).toNat=i.toNat+1 by omega,List.take_add_one,I];intro w a;simp only [Option.toList_some,List.mem_append,List.mem_singleton] at a;rcases a with a | rfl
     ·exact A w a
     ·exact e
   ·rw [if_neg (λe=>hi (by have:=of_decide_eq_true e;omega)),aI];refine ⟨⟨rfl,by omega,by omega,?_⟩,by omega⟩;rw [show (j+1).toNat=j.toNat+1 by omega,List.take_add_one,u];intro s d;simp only [Option.toList_some,List.mem_append,List.mem_singleton] at d;rcases d with d | rfl
    ·exact B s d
    ·rw [show i.toNat=s.waiters.length by omega,List.take_length] at A;exact A
  ·rw [if_neg (λe=>O (by have:=of_decide_eq_true e;omega)),aI];refine ⟨⟨rfl,by omega,by omega,?_⟩,by omega⟩;rw [show (k+1).toNat=k.toNat+1 by omega,List.take_add_one,C];intro s d;simp only [Option.toList_some,List.mem_append,List.mem_singleton] at d;rcases d with d | rfl
   ·exact S s d
   ·rw [show j.toNat=s.ae.length by omega,List.take_length] at B;exact B
 grind
end
end Lf
namespace Lf
open Go Go.Proofs
def yh (z:Int×Int):bx:=⟨z.1,z.2⟩
abbrev qV :bx->List Value:=λx=>ba (fk.enc x)
open Classical in
noncomputable def gF (c:bd) (t:fe) (all:Bool):List bx:=if (fq c).1=0/\lZ c t then (jr t all t.procs.length).map yh else []
theorem Oi {t:fe} {all:Bool} {n:Nat}:(jr t all n).length<=n:=by have:=List.length_filterMap_le (λp:Nat=>(cN (p:Int) (fa [] (lP t all))).map λv=>((p:Int),v)) (List.range n);rw [List.length_range] at this;exact this
section
variable {h:Hp} {x:aw} {y:aB} {c:bd} {t:fe} {all:Bool}
theorem yM (d:(fq c).1=0) (a:lZ c t) (f:∀x∈t.procs,x.aO.length=8):pO t:=by have b:=zW d;have e:=(Oh b).1 a;exact GT.iC b ⟨E6 b e f,a.1.2.1,a.1.2.2⟩
theorem K8 {Q:Sl->Hp->Prop} (kc:eo h x c) (C:cW h y t) (hu:∀l∈c.labels,lW l) (le:lK t) (hr:∀x∈t.procs,x.aO.length=8) (Z:∀out U,Has h (dA 2 qV out (gF c t all)) U->Q out U):
  Vs Tryz.prog x y all Q h:=by
 unfold Vs;refine mr (enc:=qV) (sz:=2) (xs:=[]) rfl (λ_=>rfl) λa h1 l1 o1=> ?_;refine zyo (S5 (kc.mono l1) (C.mono l1) hu le λe h2 l2 u=> ?_);by_cases ok:(fq c).1=0/\lZ c t
 ·have J:=u.uniq (.inr ⟨ok.1,.inl ⟨rfl,ok.2⟩⟩);subst J;rw [iT];have iC:=yM ok.1 ok.2 hr;have F:sc c t:=ok.2.2.2.2;have Y:t.procs.length=c.procs.length:=ok.2.1.2.2;have c6:t.parts.length=c.labels.length:=ok.2.1.2.1;have one:=As (room:=all) F Y;have fp:=iC.procs;obtain ⟨R,b7,W⟩:=kc.procs;have c7:=W.len;obtain ⟨zs,c1,a8⟩:=C.parts;have d0:=a8.len;obtain ⟨g,b9,b8⟩:=C.procs;have c8:=b8.len;have c4:y.aC.len=g.length:=b9.1;refine bq.intro (λ(out:Sl) (p:Int) k=>0<=p/\p<=(g.length:Int)/\Has h (dA 2 qV out ((jr t all p.toNat).map yh)) k) (λ_ p _=>(g.length-p).toNat) ⟨by omega,by omega,o1.grow l2⟩ ?_;rintro out p k ⟨p0,p1,o⟩;by_cases hp:p<(g.length:Int)
  ·rw [if_pos (fT)];have T:((p.toNat:Nat):Int)=p:=by omega
   obtain ⟨d,hyp,c0⟩:=W.get (i:=p.toNat) (List.getElem?_eq_getElem (by omega));have b6:R[p.toNat]? =some R[p.toNat]:=List.getElem?_eq_getElem (by omega);have hb:=((EM ok.1).2.2.2.2.2 d (List.mem_of_getElem? hyp)).1;have b3:∀ {K:Int->Prop} {b:Hp},h<=b->K d.part->aG x.aC.base x.aC.len p/\aD none (ab .i64) b ((sat x.aC.base 2 p).add 0) K:=λ{K b} lk M=>by
    have:=Rs.mh (sh:=bV) (shf:=ab .i64) (off:=0) (Rw.mono lk b7) (λ_=>rfl) (by decide) (show p.toNat<R.length by omega) (λz:bO=>z.Part) (λ_=>rfl) (K:=λv=>v=d.part) λw A=>by rw [b6] at A;cases A;exact c0.1
    rw [T] at this;obtain ⟨e1,v,e2,rfl⟩:=this;exact ⟨e1,_,e2,M⟩
   have hi:d.part.toNat<t.parts.length:=by omega
   have S:((d.part.toNat:Nat):Int)=d.part:=by omega
   obtain ⟨X,G⟩:∃X,t.parts[d.part.toNat]? =some X:=⟨_,List.getElem?_eq_getElem hi⟩;have I:∀ {P:Sl} {b:Hp} {E:List (Int×Int)},((cN p (fa [] (lP t all))).map λv=>(p,v)).toList=E->Has h (dA 2 qV P ((jr t all p.toNat).map yh++E.map yh)) b->
     (0<=yw (p+1)/\yw (p+1)<=(g.length:Int)/\Has h (dA 2 qV P ((jr t all (yw (p+1)).toNat).map yh)) b)/\(g.length-yw (p+1)).toNat<(g.length-p).toNat:=λ{P b E} he D=>by
    rw [aI,show (p+1).toNat=p.toNat+1 by omega,Lv,T,he,List.map_append];grind
   have some_:∀ {v:Int},(p,v)∈lP t all->((cN p (fa [] (lP t all))).map λv=>(p,v)).toList=[(p,v)]:=λhv=>by rw [(wP one).2 hv];rfl
   have a9:(∀v,(p,v)∉lP t all)->((cN p (fa [] (lP t all))).map λv=>(p,v)).toList=[]:=λhv=>by
    cases M:cN p (fa [] (lP t all)) with
    | none=>rfl
    | some v=>exact absurd ((wP one).1 M) (hv v)
   have c3:((jr t all p.toNat).map yh).length<=1000:=by rw [List.length_map];have:=Oi (t:=t) (all:=all) (n:=p.toNat);omega
   refine bH.direct (b3 o.le ?_);rw [<-S];refine zwx (s:=y) (Rc (C.mono o.le) iC G (λm q u O=> ?_) λc5=> ?_)
   ·refine bH.direct ?_;rw [if_pos (decide_eq_true (show ((m:Nat):Int)>=0 by omega))];refine b3 o.le ?_;rw [<-S];obtain ⟨z,B,c2⟩:∃z,zs[d.part.toNat]? =some z/\gR h z X:=by obtain ⟨x',c9,B⟩:=a8.get (i:=d.part.toNat) (List.getElem?_eq_getElem (by omega));grind
    obtain ⟨_,_,w,A,_⟩:=F.1 _ X G m q u p O;refine Rs.mh (sh:=bQ) (shf:=af) (off:=4) (Rw.mono o.le c1) (λ_=>rfl) (by decide) (by omega) (λz:bS=>z.bN) (λ_=>rfl) λ(w':bS) H=> ?_;rw [B] at H;cases H;refine Rs.get (sh:=ab .i64) (Rw.mono o.le c2.av) (λ_=>rfl) (by decide) (by omega) (by grind) λ(v:Int) hv=> ?_;rw [Int.toNat_natCast,A] at hv;cases hv;refine o.push (e:=(⟨p,w⟩:bx)) rfl (λ_=>rfl) (λ_=>rfl) rfl ⟨by omega,by omega⟩ λl' b D=> ?_;refine znk (s:=y) (LL (C.mono D.le) iC (λr z B l N w' H e=>absurd e (El F Y G u O B N H)) λ_=>aE ?_);rw [iT];exact I (some_ (iS.2 (.inl ⟨_,X,m,q,G,u,O,by grind⟩))) D
   ·refine bH.direct ?_;rw [iT];have b0:∀ {v:Int},¬∃(i:Nat) (x:cR) (k:Nat) (q:List Int),t.parts[i]? =some x/\x.ah[k]? =some q/\p∈q/\v=x.av.getD k 0:=λ{v} ⟨i,x',k,q,j,f,L,_⟩=>by obtain ⟨_,y',b1,b2⟩:=(xo F j f L).1;grind
    refine znk (s:=y) (LL (C.mono o.le) iC (λr z B l N w A e=>aE ?_) λb5=>aE ?_)
    ·cases V:all with
     | true=>subst V;rw [if_pos (by simp)];refine o.push (e:=(⟨p,(r:Int)⟩:bx)) rfl (λ_=>rfl) (λ_=>rfl) rfl ⟨by omega,by omega⟩ λl' b D=> ?_;exact I (some_ (iS.2 (.inr ⟨rfl,r,z,B,rfl,l,N,w,A,e⟩))) D
     | false=>subst V;rw [iT];exact I (a9 λv hv=>(iS.1 hv).elim b0 λh=>by cases h.1) (by simpa using o)
    ·rw [iT];exact I (a9 λv hv=>(iS.1 hv).elim b0 λ⟨_,r,z,j,_,l,f,w,L,g4⟩=>b5 z (List.mem_of_getElem? j) l f w L g4) (by simpa using o)
  ·rw [if_neg (λe=>hp (by grind))];refine Z _ k ?_;unfold gF;rw [if_pos ok,show t.procs.length=p.toNat by omega];exact o
 ·have b4:e≠0:=λJ=>by
   subst J;rcases u with ⟨j,f⟩ | ⟨j,⟨_,f⟩ | ⟨f,_⟩⟩
   ·exact j f.symm
   ·grind
   ·cases f
  rw [if_pos (by simpa using b4)];refine Z _ h2 ?_;unfold gF;rw [if_neg ok];exact o1.grow l2
end
end Lf
namespace Lf
open Go Go.Proofs Tryz
section
variable {h:Hp} {x:aw} {y:aB} {c:bd} {t:fe} {room:Bool}
theorem zy {a:Int} (h:0<=a/\a<=1000000):(Lit.int .i64 a).wf=true:=by simp [Lit.wf,IntKind.min,IntKind.max,IntKind.signed,IntKind.bits];omega
theorem KY (a:sc c t) (b:t.procs.length=c.procs.length) {z:Int×Int} (d:z∈fa [] (lP t room)):0<=z.1/\z.1<(t.procs.length:Int):=
 wh a b ((wP (As a b)).1 (PD CV (show (z.1,z.2)∈fa [] (lP t room) from d)))
theorem VX (d:sc c t) (e:t.procs.length=c.procs.length):(fa [] (lP t room)).length<=t.procs.length:=by
 have:=FN ((fa [] (lP t room)).map (·.1)) ((List.range t.procs.length).map λp:Nat=>(p:Int)) CV λx f=>by obtain ⟨z,g,rfl⟩:=List.mem_map.1 f;obtain ⟨a,b⟩:=KY d e g;exact List.mem_map.2 ⟨z.1.toNat,List.mem_range.2 (by omega),by omega⟩
 simpa using this
theorem Zp {q:Nat}:wE room q []=[]:=by unfold wE;split<;>rfl
theorem Pg {Q:Sl->Hp->Prop} (kc:eo h x c) (ks:cW h y t) (hu:∀l∈c.labels,lW l) (le:lK t) (hr:∀x∈t.procs,x.aO.length=8) (hq:∀out h',Has h (dA 2 qV out (gF c t room)) h'->Q out h'):
  zyc prog x y room Q h:=by
 unfold zyc;refine T7 (QU kc ks hu le λe f W hm=> ?_);by_cases ok:(fq c).1=0/\lZ c t
 ·have Y:=hm.uniq (.inr ⟨ok.1,.inl ⟨rfl,ok.2⟩⟩);subst Y;rw [iT];have iC:=yM ok.1 ok.2 hr;have T:sc c t:=ok.2.2.2.2;have hn:t.procs.length=c.procs.length:=ok.2.1.2.2;have fp:=iC.procs;have e3:=iC.parts;obtain ⟨I,c6,c5⟩:=(ks.mono W).parts;have f9:=c5.len;have g0:y.bt.len=I.length:=c6.1;obtain ⟨H,c2,c1⟩:=(ks.mono W).procs;have f6:=c1.len;have f7:y.aC.len=H.length:=c2.1;intro m d2;have C:∀ {k:Hp},Mv [] f [m] k->f<=k:=λmv=>(mv.le (Hp.le_refl f) λb hb=>by cases hb).1;have put:∀ {L:List (Int×Int)} {p v:Int} {k:Hp} {K:Hp->Prop},Mv [] f [m] k->dC k m .i64 vI (fa [] L)->(∀A,Mv [] f [m] A->dC A m .i64 vI (fa [] (L++ [(p,v)]))->K A)->tZ (.int .i64) (some m) (.int .i64 p) (.int .i64 v) K k:=λ{L p v k K} mv d hk=>by refine Em (ev:=vI) (v:=v) d λo _ a9=>hk _ (mv.trans Mv.set) ?_;rw [DO];exact a9
  refine au.intro (λi k=>Mv [] f [m] k/\0<=i/\i<=(I.length:Int)/\dC k m .i64 vI (fa [] ((t.parts.take i.toNat).flatMap qI))) (λi _=>(I.length-i).toNat) ⟨Mv.new d2,by omega,by omega,dC.new⟩ ?_;rintro i k ⟨mv,i0,i1,d⟩;by_cases hi:i<(I.length:Int)
  ·rw [if_pos (fT)];have J:i.toNat<I.length:=by omega
   obtain ⟨X,E,U⟩:=c5.get (i:=i.toNat) (List.getElem?_eq_getElem J);have Z:=iC.log X (List.mem_of_getElem? E);refine Rs.get (sh:=bQ) (Rw.mono (C mv) c6) (λ_=>rfl) (by decide) i0 hi λ(z:bS) P=> ?_;rw [List.getElem?_eq_getElem J] at P;cases P;obtain ⟨G,b7,b6⟩:=U.ah;have e8:=b6.len;have e9:(I[i.toNat]).bI.len=G.length:=b7.1;refine au.intro (λj A=>Mv [] f [m] A/\0<=j/\j<=(G.length:Int)/\dC A m .i64 vI (fa [] ((t.parts.take i.toNat).flatMap qI++(List.range j.toNat).flatMap (qK X)))) (λj _=>(G.length-j).toNat) ⟨mv,by omega,by omega,by simpa using d⟩ ?_;rintro j A ⟨mv,V,j1,d⟩;by_cases M:j<(G.length:Int)
   ·rw [if_pos (fT)];have N:j.toNat<G.length:=by omega
    obtain ⟨q,a8,b8⟩:=b6.get (i:=j.toNat) (List.getElem?_eq_getElem N);have qf:=Z.2.2.2 q (List.mem_of_getElem? a8);refine Rs.get (sh:=af) (Rw.mono (C mv) b7) (λ_=>rfl) (by decide) V M λ(w:Sl) B=> ?_;rw [List.getElem?_eq_getElem N] at B;cases B;have d0:(G[j.toNat]).len=q.length:=b8.1;refine au.intro (λn g=>Mv [] f [m] g/\0<=n/\n<=(q.length:Int)/\dC g m .i64 vI (fa [] (((t.parts.take i.toNat).flatMap qI++(List.range j.toNat).flatMap (qK X))++(q.take n.toNat).map λp=>(p,X.av.getD j.toNat 0)))) (λn _=>(q.length-n).toNat) ⟨mv,by omega,by omega,by simpa using d⟩ ?_;rintro n g ⟨mv,n0,n1,d⟩;by_cases O:n<(q.length:Int)
    ·rw [if_pos (fT)];refine Rs.get (sh:=ab .i64) (Rw.mono (C mv) b8) (λ_=>rfl) (by decide) n0 O λ(p:Int) hp=> ?_;obtain ⟨_,_,o,ho,_⟩:=T.1 i.toNat X E j.toNat q a8 p (List.mem_of_getElem? hp);refine Rs.get (sh:=ab .i64) (Rw.mono (C mv) U.av) (λ_=>rfl) (by decide) V (by have:=(List.getElem?_eq_some_iff.1 ho).1;omega) λ(v:Int) hv=> ?_;rw [ho] at hv;cases hv;refine put mv d λD b0 a9=> ?_;rw [aI];refine ⟨⟨b0,by omega,by omega,?_⟩,by omega⟩;rw [show (n+1).toNat=n.toNat+1 by omega,List.take_add_one,hp];grind
    ·rw [if_neg (λe=>O (by have:=of_decide_eq_true e;omega)),aI];refine ⟨⟨mv,by omega,by omega,?_⟩,by omega⟩;rw [show n.toNat=q.length by omega,List.take_length] at d;rw [show (j+1).toNat=j.toNat+1 by omega,List.range_succ,List.flatMap_append,<-List.append_assoc];have e: [j.toNat].flatMap (qK X)=q.map λp=>(p,X.av.getD j.toNat 0):=by simp [qK,List.getD_eq_getElem?_getD,a8]
     grind
   ·rw [if_neg (λe=>M (by grind)),aI];refine ⟨⟨mv,by omega,by omega,?_⟩,by omega⟩;rw [show j.toNat=X.ah.length by omega] at d;rw [show (i+1).toNat=i.toNat+1 by omega,List.take_add_one,E,List.flatMap_append];simpa [qI] using d
  ·rw [if_neg (λe=>hi (by grind))];rw [show i.toNat=t.parts.length by omega,List.take_length] at d;clear hi i0 i1;have c7:∀ {i:Nat} {X:ai},t.procs[i]? =some X->t.procs.getD i jB=X:=λh=>by grind
   refine au.intro (λi k=>Mv [] f [m] k/\0<=i/\i<=(H.length:Int)/\dC k m .i64 vI (fa [] (t.parts.flatMap qI++(List.range i.toNat).flatMap λq=>lI room q (t.procs.getD q jB)))) (λi _=>(H.length-i).toNat) ⟨mv,by omega,by omega,by simpa using d⟩ ?_;rintro i k ⟨mv,i0,i1,d⟩;by_cases hi:i<(H.length:Int)
   ·rw [if_pos (fT)];have ei:((i.toNat:Nat):Int)=i:=by omega
    have J:i.toNat<H.length:=by omega
    obtain ⟨X,E,U⟩:=c1.get (i:=i.toNat) (List.getElem?_eq_getElem J);have Z:=iC.ae X (List.mem_of_getElem? E);refine Rs.get (sh:=aN) (Rw.mono (C mv) c2) (λ_=>rfl) (by decide) i0 hi λ(z:bh) P=> ?_;rw [List.getElem?_eq_getElem J] at P;cases P;obtain ⟨F,b5,b4⟩:=U.ae;have e5:=b4.len;have e6:(H[i.toNat]).cC.len=F.length:=b5.1;refine au.intro (λj A=>Mv [] f [m] A/\0<=j/\j<=(F.length:Int)/\dC A m .i64 vI (fa [] ((t.parts.flatMap qI++(List.range i.toNat).flatMap λq=>lI room q (t.procs.getD q jB))++(X.ae.take j.toNat).flatMap λl=>wE room i.toNat l.waiters))) (λj _=>(F.length-j).toNat) ⟨mv,by omega,by omega,by simpa using d⟩ ?_;rintro j A ⟨mv,V,j1,d⟩;by_cases M:j<(F.length:Int)
    ·rw [if_pos (fT)];have N:j.toNat<F.length:=by omega
     obtain ⟨l,b2,d1⟩:=b4.get (i:=j.toNat) (List.getElem?_eq_getElem N);have qf:=(Z.2 l (List.mem_of_getElem? b2)).2;refine Rs.get (sh:=bD) (Rw.mono (C mv) b5) (λ_=>rfl) (by decide) V M λ(w:cd) B=> ?_;rw [List.getElem?_eq_getElem N] at B;cases B;obtain ⟨s,c0,f5⟩:=d1.waiters;have f4:s.length=l.waiters.length:=by grind
     have d0:(F[j.toNat]).bB.len=s.length:=c0.1;refine au.intro (λn g=>Mv [] f [m] g/\0<=n/\n<=(s.length:Int)/\dC g m .i64 vI (fa [] (((t.parts.flatMap qI++(List.range i.toNat).flatMap λq=>lI room q (t.procs.getD q jB))++(X.ae.take j.toNat).flatMap λl=>wE room i.toNat l.waiters)++wE room i.toNat (l.waiters.take n.toNat)))) (λn _=>(s.length-n).toNat) ⟨mv,by omega,by omega,by rw [show (0:Int).toNat=0 from rfl,List.take_zero,Zp,List.append_nil];exact d⟩ ?_;rintro n g ⟨mv,n0,n1,d⟩;by_cases O:n<(s.length:Int)
     ·rw [if_pos (fT)];have d4:s[n.toNat]? =some s[n.toNat]:=List.getElem?_eq_getElem (by omega);have d5:l.waiters[n.toNat]? =some (pB s[n.toNat]):=by grind
      have b1:∀ {D:Hp},Mv [] f [m] D->dC D m .i64 vI (fa [] (((t.parts.flatMap qI++(List.range i.toNat).flatMap λq=>lI room q (t.procs.getD q jB))++(X.ae.take j.toNat).flatMap λl=>wE room i.toNat l.waiters)++wE room i.toNat (l.waiters.take (n.toNat+1))))->
        (Mv [] f [m] D/\0<=yw (n+1)/\yw (n+1)<=(s.length:Int)/\dC D m .i64 vI (fa [] (((t.parts.flatMap qI++(List.range i.toNat).flatMap λq=>lI room q (t.procs.getD q jB))++(X.ae.take j.toNat).flatMap λl=>wE room i.toNat l.waiters)++wE room i.toNat (l.waiters.take (yw (n+1)).toNat))))/\(s.length-yw (n+1)).toNat<(s.length-n).toNat:=λ{D} a b=>by
       rw [aI,show (n+1).toNat=n.toNat+1 by omega];grind
      refine bM.direct (Rs.get (sh:=aF) (Rw.mono (C mv) c0) (λ_=>rfl) (by decide) n0 O λ(w:bp) B=> ?_);rw [d4] at B;cases B;cases b9:room with
      | true=>
       subst b9;rw [if_pos rfl];refine put mv d λD b0 a9=>b1 b0 ?_;have e2:wE true i.toNat (l.waiters.take (n.toNat+1))=wE true i.toNat (l.waiters.take n.toNat)++ [((s[n.toNat]).bT,i)]:=by unfold wE;rw [if_pos rfl,if_pos rfl,List.take_add_one,d5,List.map_append];show _++ [((pB s[n.toNat]).proc,((i.toNat:Nat):Int))]=_;rw [ei];rfl
       grind
      | false=>subst b9;rw [iT];exact b1 mv d
     ·rw [if_neg (λe=>O (by grind)),aI];refine ⟨⟨mv,by omega,by omega,?_⟩,by omega⟩;rw [show n.toNat=l.waiters.length by omega,List.take_length] at d;rw [show (j+1).toNat=j.toNat+1 by omega,List.take_add_one,b2,List.flatMap_append,<-List.append_assoc];simpa using d
    ·rw [if_neg (λe=>M (by have:=of_decide_eq_true e;omega)),aI];refine ⟨⟨mv,by omega,by omega,?_⟩,by omega⟩;rw [show j.toNat=X.ae.length by omega,List.take_length] at d;rw [show (i+1).toNat=i.toNat+1 by omega,List.range_succ,List.flatMap_append,<-List.append_assoc];have e: [i.toNat].flatMap (λq=>lI room q (t.procs.getD q jB))=X.ae.flatMap λl=>wE room i.toNat l.waiters:=by simp only [List.flatMap_cons,List.flatMap_nil,List.append_nil];rw [c7 E];rfl
     grind
   ·rw [if_neg (λe=>hi (by grind))];rw [show i.toNat=t.procs.length by omega] at d;have d:dC k m .i64 vI (fa [] (lP t room)):=d;have d8:=C mv;have d6:∀p∈fa [] (lP t room),(Lit.int .i64 p.1).wf=true:=λp hp=>by obtain ⟨a,b⟩:=KY T hn hp;exact zy ⟨a,by omega⟩
    have e4:=VX (room:=room) T hn;refine zfr ?_;unfold Sk;intro b3 t3 c8;have l3:=lx (o:=.cells (([.map (some m)]:List Value).toArray) t3 (0,0)) c8;refine JI (d.mono l3) d6 Ab (by omega) λr3 r S F3 o3 e1 c4 c3=> ?_;have l6:=(e1.le (Hp.le_refl _) λb hb=>by cases hb).1;have d9:=(d.mono l3).mono l6;have ry:Is S r3 r:=o3.rw λ_=>rfl;have f8:r.length<=1000:=by have:=FN r _ (L9 c4) λx hx=>(c3 x).1 hx;grind
    have f0:r3.len=r.length:=ry.1;have c9:=Sd (room:=room) T hn c4 c3;have d7:f<=S:=Hp.le_trans d8 (Hp.le_trans l3 l6);refine bq.intro (λ(out:Sl) (i:Int) k=>0<=i/\i<=(r.length:Int)/\Has S (dA 2 qV out (((r.take i.toNat).map λk=>(k,(cN k (fa [] (lP t room))).getD 0)).map yh)) k) (λ_ i _=>(r.length-i).toNat) ⟨by omega,by omega,Has.j5 (Hp.le_refl _)⟩ ?_;rintro out i k9 ⟨i0,i1,o⟩;by_cases hi:i<(r.length:Int)
    ·rw [if_pos (fT)];refine Rs.get (sh:=ab .i64) (Rw.mono o.le ry) (λ_=>rfl) (by decide) i0 hi λ(v:Int) hv=> ?_;have e7:(((r.take i.toNat).map λk=>(k,(cN k (fa [] (lP t room))).getD 0)).map yh).length<=1000:=by grind
     have go:∀ {u:Int},(cN v (fa [] (lP t room))).getD 0=u->bG [(.int .i64 v),(.int .i64 u)] (λa h8=>gv 2 16 [(.int .i64 (0:Int)),(.int .i64 (0:Int))] ⟨out.base,out.len,out.cap⟩ ⟨(some a),1,1⟩ (λr4 h9=>
       (0<=yw (i+1)/\yw (i+1)<=(r.length:Int)/\Has S (dA 2 qV r4 (((r.take (yw (i+1)).toNat).map λk=>(k,(cN k (fa [] (lP t room))).getD 0)).map yh)) h9)/\(r.length-yw (i+1)).toNat<(r.length-i).toNat) h8) k9:=λ{u} hu=>by
      refine o.push (e:=(⟨v,u⟩:bx)) rfl (λ_=>rfl) (λ_=>rfl) rfl ⟨by omega,by omega⟩ λl' A o'=> ?_;rw [aI,show (i+1).toNat=i.toNat+1 by omega,List.take_add_one,hv];refine ⟨⟨by omega,by omega,?_⟩,by omega⟩;rw [List.map_append,List.map_append];subst hu;exact o'
     refine zU (d9.mono o.le) (λhg=>go (by rw [hg];rfl)) λu hg=>go (by rw [hg];rfl)
    ·rw [if_neg (λe=>hi (by grind))];refine hq _ k9 ?_;rw [show i.toNat=r.length by omega,List.take_length,c9] at o;unfold gF;rw [if_pos ok];exact o.mono (Hp.le_trans W d7)
 ·have d3:e≠0:=λY=>by
   subst Y;rcases hm with ⟨g1,R⟩ | ⟨g1,⟨_,R⟩ | ⟨R,_⟩⟩
   ·exact g1 R.symm
   ·grind
   ·cases R
  rw [if_pos (by simpa using d3)];refine hq _ f ?_;unfold gF;rw [if_neg ok];exact Has.j5 W
end
section
variable {h:Hp} {x:aw} {y:aB} {c:bd} {t:fe} {room:Bool}
theorem VY (s:∀x∈t.procs,x.aO.length=8) {z:bx} (g:z∈gF c t room):PR z:=by
 unfold gF at g;by_cases ok:(fq c).1=0/\lZ c t
 ·rw [if_pos ok] at g;have iC:=yM ok.1 ok.2 s;have f:sc c t:=ok.2.2.2.2;have l:t.procs.length=c.procs.length:=ok.2.1.2.2;have A:=iC.procs;obtain ⟨w,u,rfl⟩:=List.mem_map.1 g;have j:=(wP (As (room:=room) f l)).1 (Mm u);obtain ⟨a,b⟩:=wh f l j;refine ⟨zy ⟨a,by show w.1<=_;omega⟩,?_⟩;rcases iS.1 j with ⟨i,X,k,q,e,n,p,d⟩ | ⟨_,r,X,e,d,_⟩
  ·obtain ⟨_,_,o,m,B,_⟩:=f.1 i X e k q n _ p;rw [List.getD_eq_getElem?_getD,m] at d;have d:w.2=o:=d;obtain ⟨⟨_,y,v,_⟩,_⟩:=(ok.2.2.1 i X e).2.2.2.2.2.2.2 o (List.mem_of_getElem? m) (by omega);have:=(List.getElem?_eq_some_iff.1 v).1;refine zy ⟨by show 0<=w.2;omega,by show w.2<=_;omega⟩
  ·have:=(List.getElem?_eq_some_iff.1 e).1;have d:w.2=(r:Int):=d;refine zy ⟨by show 0<=w.2;omega,by show w.2<=_;omega⟩
 grind
theorem D5 (a:∀x∈t.procs,x.aO.length=8):(gF c t room).length<=1000:=by
 unfold gF;by_cases ok:(fq c).1=0/\lZ c t
 ·rw [if_pos ok,List.length_map];have iC:=(yM ok.1 ok.2 a).procs;have:=Oi (t:=t) (all:=room) (n:=t.procs.length);omega
 grind
theorem K6 {Q:Hp->Prop} {k:Hp} {l:Sl} {b:List bx} (o:Has h (dA 2 qV l b) k) (w:b.length<=1000) (m:∀d,h<=d->Q d):Wv prog l Q k:=by
 unfold Wv;refine au.intro (λ(i:Int) d=>0<=i/\i<=(b.length:Int)/\∃a,a.length=b.length/\Has h (dA 2 qV l a) d) (λi _=>(b.length-i).toNat) ⟨by omega,by omega,b,rfl,o⟩ ?_;rintro i A ⟨i0,p,a,r,o⟩;have v:=o.iy;by_cases hi:i<(b.length:Int)
 ·rw [if_pos (fT)];have n:a[i.toNat]? =some a[i.toNat]:=List.getElem?_eq_getElem (by omega);have f:((i.toNat:Nat):Int)=i:=by omega
  refine ⟨(Rs.get (sh:=fk) (K:=λ_=>True) (i:=i) (o.jW λ_=>rfl) (λ_=>rfl) (by decide) (by omega) (by omega) λ_ _=>trivial).1,?_⟩;rw [<-f];refine o.yn (λ_=>rfl) (i:=i.toNat) (x':=(⟨-7, -7⟩:bx)) (off:=0) (new:=qV ⟨-7, -7⟩) n (Nat.le_refl 2) (List.append_nil _) λC E=> ?_;rw [f,aI];grind
 ·rw [if_neg (λe=>hi (by grind))];refine bq.intro (λ(s:Sl) (i:Int) d=>0<=i/\i<=20/\∃a,a.length<=1000+i.toNat/\Has h (dA 2 qV s a) d) (λ_ i _=>(20-i).toNat) ⟨by omega,by omega,a,by omega,o⟩ ?_;rintro s i B ⟨i0,p,q,u,j⟩;by_cases g:i<20
  ·rw [if_pos (decide_eq_true g)];refine j.push (e:=(⟨-8, -8⟩:bx)) rfl (λ_=>rfl) (λ_=>rfl) rfl ⟨by omega,by omega⟩ λF z D=> ?_;rw [aI];grind
  ·rw [if_neg (λe=>g (of_decide_eq_true e))];exact m _ j.le
theorem MV {Q:Bool->Hp->Prop} (m:eo h x c) (n:cW h y t) (j:∀l∈c.labels,lW l) (le:lK t) (f:∀x∈t.procs,x.aO.length=8) (hq:∀d,h<=d->Q true d):V3 prog x y Q h:=by
 unfold V3;refine au.intro (λ(i:Int) k=>0<=i/\i<=2/\h<=k) (λi _=>(2-i).toNat) ⟨by omega,by omega,Hp.le_refl _⟩ ?_;rintro i k ⟨i0,i1,q⟩;have F:∀ {k:Hp} {Q:Sl->Hp->Prop},h<=k->(∀out d,Has k (dA 2 qV out (gF c t true)) d->Q out d)->aa prog LM [x.v,y.v] af Q k:=λl e=>zzh (c:=x) (s:=y) (by
  unfold zyb;exact O8 (c:=x) (s:=y) (room:=true) (Pg (m.mono l) (n.mono l) j le f e))
 have O:∀ {k:Hp} {Q:Sl->Hp->Prop},h<=k->(∀out d,Has k (dA 2 qV out (gF c t false)) d->Q out d)->aa prog Pj [x.v,y.v] af Q k:=λl e=>zwt (c:=x) (s:=y) (by
  unfold zvd;exact O8 (c:=x) (s:=y) (room:=false) (Pg (m.mono l) (n.mono l) j le f e))
 have re:∀ {k:Hp} {Q:Sl->Hp->Prop},h<=k->(∀out d,Has k (dA 2 qV out (gF c t true)) d->Q out d)->aa prog OL [x.v,y.v] af Q k:=λl e=>zvm (c:=x) (s:=y) (by
  unfold zpq;exact zmg (c:=x) (s:=y) (all:=true) (K8 (m.mono l) (n.mono l) j le f e))
 have S:∀ {k:Hp} {Q:Sl->Hp->Prop},h<=k->(∀out d,Has k (dA 2 qV out (gF c t false)) d->Q out d)->aa prog T9 [x.v,y.v] af Q k:=λl e=>zuf (c:=x) (s:=y) (by
  unfold zoi;exact zmg (c:=x) (s:=y) (all:=false) (K8 (m.mono l) (n.mono l) j le f e))
 have same:∀ {k:Hp} {a b:Sl} {room:Bool} {Q:Bool->Hp->Prop},Es k a (gF c t room)->Es k b (gF c t room)->Q true k->aa prog Jc [a.v,b.v] aW Q k:=λ{k a b room Q} P R e=>
  zvl (UO P R (by have:=D5 (c:=c) (room:=room) f;omega) (λz H=>VY f H) e)
 by_cases hi:i<2
 ·rw [if_pos (decide_eq_true hi)];refine F q λa U u=>⟨⟨trivial,trivial,trivial⟩,?_⟩;have B:=Hp.le_trans q u.le;refine O B λb V p=> ?_;have C:=Hp.le_trans B p.le;refine re C λr2 W g=> ?_;have D:=Hp.le_trans C g.le;refine same ((u.jW λ_=>rfl).mono (Hp.le_trans p.le g.le)) (g.jW λ_=>rfl) ?_;refine Fq rfl (S D λr4 X o=> ?_);have l6:=Hp.le_trans D o.le;refine Fq rfl (same ((p.jW λ_=>rfl).mono (Hp.le_trans g.le o.le)) (o.jW λ_=>rfl) (aE ?_));have N:=(u.beside p).grow (Hp.le_trans g.le o.le);obtain ⟨hb,K,L,⟨G,f2,f3⟩,_⟩:=N.fst;have M:Has k (dA 2 qV b (gF c t false)) hb:=⟨K,G,f2,f3⟩;refine zor (K6 L (D5 f) λY I=> ?_);refine zor (K6 (M.grow I) (D5 f) λZ J=> ?_);have w:=Hp.le_trans q J;refine Fq rfl (F w λr6 h9 E=>⟨⟨trivial,trivial,trivial⟩,?_⟩);have A:=Hp.le_trans w E.le;refine Fq rfl (re A λr7 T r=> ?_);refine Fq rfl (same ((E.jW λ_=>rfl).mono r.le) (r.jW λ_=>rfl) (aE ?_));rw [iT,aI];exact ⟨⟨by omega,by omega,Hp.le_trans A r.le⟩,by omega⟩
 grind
end
def sH (x:bU):aw:=⟨x.fG,x.gY,x.mI,x.mJ,x.kL,x.pH,x.gX⟩
section
variable {h k:Hp} {c:bd} {t:fe} {pm a:Addr} {x:bU} {S:List dZ}
theorem GT.wq (g:GT c t):∀x∈t.procs,x.aO.length=8:=λx d=>by obtain ⟨i,hi⟩:=List.mem_iff_getElem?.1 d;have e:(cq t).proc i=x:=pD hi;have b:=(List.getElem?_eq_some_iff.1 hi).1;have f:=(g.iw.proc i (by rw [<-g.procs];exact b)).aO;grind
theorem zz (g:aR h a (ba (bf.enc x))) {K:aw->Prop} (d:K (sH x)):aD none aK h (a.add 0) K:=
 ⟨sH x,λj v b=>by
  have e:(a.add 0).add j=a.add j:=by rw [rY,Nat.zero_add]
  rw [e];refine g j v ?_;have f:j<7:=(List.getElem?_eq_some_iff.1 b).1
  match j,f,b with
  | 0,_,b=>exact b
  | 1,_,b=>exact b
  | 2,_,b=>exact b
  | 3,_,b=>exact b
  | 4,_,b=>exact b
  | 5,_,b=>exact b
  | 6,_,b=>exact b,d⟩
theorem Dp {K:Bool->Hp->Prop} (q:ft h k c t t pm none) (m:cP c) (g:GT c t) (n:eo h (sH x) c) (u:∀l∈c.labels,lW l) (z:aR h a (ba (bf.enc x))) (o:∀d j,h<=d->ft d j c t t pm none->K true j):
  aa prog I3 [(.pointer (some pm))] be (λr2 e=>ig prog tb (.func (.func 11) #[] #[(.pointer (some a))]) [r2.v] aW K e) k:=by
 refine zug (q.BT m g.iw g.parts g.procs λr C D f p A=>wT rfl ?_);refine A.base (sh:=aW) (K0:=λb _=>b=true) (zpe (s:=r) (a1:=a) ?_) ?_
 ·unfold zit;refine zz (λi v hv=>M4 f (z i v hv)) ?_;exact znj (c:=sH x) (s:=r) (MV (n.mono f) p u (g.le m) g.wq λd l=>⟨l,rfl⟩)
 ·rintro b e w y rfl B;exact o e w (Hp.le_trans f y) B
theorem Ym {Q:Bool->Hp->Prop} (K:(fq c).1=0) (w:eo h (sH x) c) (y:∀l∈c.labels,lW l) (P:Rs h fz 3 x.Steps S) (la:aR h a (ba (bf.enc x))) (Z:∀n,h<=n->Q true n):
  V4 prog x ⟨11, #[], #[(.pointer (some a))]⟩ Q h:=by
 unfold V4;refine T5 (c:=sH x) (Yi w y (λ_ _ Y=>absurd K Y) λpm k1 _ l1 st=>aE ?_);rw [iT];have d:=zW K;obtain ⟨hb,F,q⟩:=st.pair;obtain ⟨J,b3⟩:=VW d;have E:∀ {n:Hp},h<=n->aR n a (ba (bf.enc x)):=λl i v hv=>M4 l (la i v hv);refine Dp q d J (w.mono F) y (E F) λX k2 b2 q2=> ?_;rw [iT];have sl:x.Steps.len=S.length:=P.1;refine bq.intro (λ(b:Int) (i:Int) k=>(0<=i/\i<=2000)/\(0<=b/\b<=1000)/\∃hb t,h<=hb/\ft hb k c t t pm none/\GT c t/\t.tick<=b) (λ_ i _=>(2000-i).toNat) ⟨⟨by omega,by omega⟩,⟨by omega,by omega⟩,X,_,Hp.le_trans F b2,q2,J,by omega⟩ ?_;rintro b i k3 ⟨⟨i0,i1⟩,⟨t0,t1⟩,B,u,o,r,m,a8⟩;refine aE ?_;by_cases O:i<(x.Steps.len:Int)/\i<2000
 ·rw [if_pos (by simpa using O)];refine Rs.get (sh:=fz) (Rw.mono (Hp.le_trans o r.le) P) (λ_=>rfl) (by omega) i0 (by omega) λ(z:dZ) _=> ?_;refine bH.intro (λ(b:Int) k=>(0<=b/\b<=1000)/\∃hb t,h<=hb/\ft hb k c t t pm none/\GT c t/\t.tick<=b) ?_ ?_
  ·by_cases R:z.Kind=1
   ·rw [if_pos (by simpa using R)];refine bq.intro (λ(b:Int) (j:Int) k=>(0<=j/\j<=b/\b<=1000)/\∃hb t,h<=hb/\ft hb k c t t pm none/\GT c t/\t.tick<=b) (λb _ _=>(1000-b).toNat) ⟨⟨by omega,by omega,by omega⟩,B,u,o,r,m,a8⟩ ?_;rintro W j k4 ⟨⟨j0,j1,j2⟩,L,v,e,A,f,D⟩;refine aE ?_;by_cases M:j<z.N/\W<1000
    ·rw [if_pos (by simpa using M)];obtain ⟨g,I⟩:=f.tick d (by omega);refine zvn (A.GP d f.iw (by omega) λU s=> ?_);refine Dp s.alone d g (w.mono e) y (E e) λC k6 G H=> ?_;rw [iT,aI,aI];exact ⟨⟨⟨by omega,by omega,by omega⟩,C,_,Hp.le_trans e G,H,g,by omega⟩,by omega⟩
    ·rw [if_neg (by simpa using M)];exact ⟨⟨by omega,by omega⟩,L,v,e,A,f,D⟩
   rw [if_neg (by simpa using R)];by_cases T:z.Kind=2
   ·rw [if_pos (by simpa using T)];obtain ⟨g,I⟩:=m.inj d (p:=z.N) (v:=z.V) (by omega);exact ztx (r.P2 d m.iw λU s=>⟨⟨by omega,by omega⟩,B,_,o,s.alone,g,by omega⟩)
   rw [if_neg (by simpa using T)];by_cases a9:z.Kind=3
   ·rw [if_pos (by simpa using a9)];obtain ⟨g,I⟩:=m.kill d (p:=z.N) (by omega);exact zvo (r.Gn d m.iw λU s=>⟨⟨by omega,by omega⟩,B,_,o,s.alone,g,by omega⟩)
   grind
  ·rintro W k4 ⟨⟨b0,b1⟩,L,v,e,A,f,D⟩;refine Dp A d f (w.mono e) y (E e) λC k6 G H=> ?_;rw [iT,aI];exact ⟨⟨⟨by omega,by omega⟩,⟨by omega,by omega⟩,C,v,Hp.le_trans e G,H,f,D⟩,by omega⟩
 ·rw [if_neg (by simpa using O)];exact Z _ (Hp.le_trans o r.le)
theorem pg {Q:Bool->Hp->Prop} {y:aw} {s:aB} {d:bd} {u:fe} (m:eo h (sH x) c) (A:∀l∈c.labels,lW l) (I:Rs h fz 3 x.Steps S) (G:eo h y d) (hv:∀l∈d.labels,lW l) (B:cW h s u) (le:lK u) (z:∀x∈u.procs,x.aO.length=8) (C:∀b,h<=b->Q true b):
  S6 prog x y s Q h:=by
 unfold S6;refine rQ (sh:=bf) x rfl λa q f N=> ?_;have M:aR q a (ba (bf.enc x)):=by
  have:=N.eM (off:=0) (n:=8) rfl
  rwa [show a.add 0=a by simp [Addr.add]] at this
 refine znj (c:=y) (s:=s) (MV (G.mono f) (B.mono f) hv le z λR J=> ?_);refine Fq rfl (zvk (US λT L=>aE ?_));rw [iT];have g:=Hp.le_trans J L;have e:=Hp.le_trans f g;have j:∀ {b:Hp},q<=b->aR b a (ba (bf.enc x)):=λl i v hv=>M4 l (M i v hv);refine zz (j g) ?_;refine zyn (c:=sH x) ?_;unfold zsk;refine zos (J5 (m.mono e) λat_=> ?_);dsimp only;by_cases w:(fq c).1=0
 ·rw [if_neg (by simp [w])];refine ⟨x,λi v hv=>j g i v hv,?_⟩;exact zwu (x:=x) (asked:=⟨11, #[], #[(.pointer (some a))]⟩) (Ym w (m.mono e) A (Rw.mono e I) (j g) λb l=>C b (Hp.le_trans e l))
 ·rw [if_pos (by simpa using w)];have D:∀ {room:Bool},gF c u room=[]:=λ{room}=>by unfold gF;grind
  refine zz (j g) ?_;refine zzh (c:=sH x) (s:=s) ?_;unfold zyb;refine O8 (c:=sH x) (s:=s) (room:=true) (Pg (m.mono e) (B.mono e) A le z λO U E=> ?_);have o:=E.iy;rw [D] at o;have o:O.len=0:=o;dsimp only;rw [o];have r:=Hp.le_trans g E.le;refine ⟨sH x,λ_=> ?_,?_⟩
  ·have:=zz (K:=λv=>v=sH x) (j r) rfl;obtain ⟨v,q,rfl⟩:=this;exact q
  refine Fq rfl (zwt (c:=sH x) (s:=s) ?_);unfold zvd;refine O8 (c:=sH x) (s:=s) (room:=false) (Pg (m.mono (Hp.le_trans f r)) (B.mono (Hp.le_trans f r)) A le z λP H F=>aE ?_);have p:=F.iy;rw [D] at p;have p:P.len=0:=p
  try dsimp only
  rw [p];exact C H (Hp.le_trans (Hp.le_trans f r) F.le)
end
structure tl (hb k:Hp) (A B:bd) (t1 t2:fe) (pm qm:Addr):Prop where
 ex:∃K1 tm1 K2 tm2,K1.c=A/\dD hb K1/\eH A tm1 (cq t1)/\K2.c=B/\dD hb K2/\eH B tm2 (cq t2)/\Has hb ((aJ K1 pm (cq t1) tm1).star (aJ K2 qm (cq t2) tm2)) k
section
variable {hb k:Hp} {A B:bd} {t1 t2:fe} {pm a:Addr} {S T:List dZ}
theorem tl.le (d:tl hb k A B t1 t2 pm a):hb<=k:=by obtain ⟨_,_,_,_,_,_,_,_,_,_,o⟩:=d.ex;exact o.le
theorem tl.one (d:tl hb k A B t1 t2 pm a):∃K m b,K.c=A/\dD b K/\eH A m (cq t1)/\hb<=b/\Has b (aJ K pm (cq t1) m) k/\∀e f h,Has b (aJ K pm e f) h->eH A f e->tl hb h A B (e.list A) t2 pm a:=by obtain ⟨i,w,n,x,g,l,p,r,s,q,o⟩:=d.ex;obtain ⟨b,j,u,_,put⟩:=o.fst;refine ⟨i,w,b,g,l.mono j,p,j,u,λe f h t v=>⟨i,f,n,x,g,l,D4 v,r,s,q,?_⟩⟩;rw [Dm g];exact put _ _ t
theorem tl.base {P:Program} {g:FuncId} {args:List Value} {sh:Shape} {K0 K:sh.T->Hp->Prop} (d:tl hb k A B t1 t2 pm a) (m:aa P g args sh (λz h'=>hb<=h'/\K0 z h') hb) (n:∀z h' b,hb<=h'->K0 z h'->tl h' b A B t1 t2 pm a->K z b):aa P g args sh K k:=by obtain ⟨c,s,e,t,i,p,f,j,q,h,o⟩:=d.ex;refine yL o m ?_;rintro z h' b ⟨l,h0⟩ r;exact n z h' b l h0 ⟨c,s,e,t,i,p.mono l,f,j,q.mono l,h,r⟩
theorem tl.state {Q:aB->Hp->Prop} (d:tl hb k A B t1 t2 pm a) (u:cP A) (g:GT A t1) (p:∀r b c,hb<=b->cW b r t1->tl b c A B t1 t2 pm a->Q r c):Fy prog (some pm) Q k:=by obtain ⟨i,w,j,x,rfl,h,f,n,t,m,o⟩:=d.ex;obtain ⟨y,s,v,_,put⟩:=o.fst;exact Yl (h.mono s) u g f v (λc e=>put _ _ e) λr b c l q e=>p r b c l q ⟨i,w,j,x,rfl,h.mono l,f,n,t.mono l,m,e⟩
theorem tl.tick {Q:Int->Hp->Prop} (d:tl hb k A B t1 t2 pm a) (f:cP A) (g:GT A t1) (e:t1.tick<4611686018427387904) (c:∀b,tl hb b A B (tQ A t1) t2 pm a->Q (nt A t1.tick:Int) b):Jk prog (some pm) Q k:=by obtain ⟨K,o,m,rfl,mk,j,n,i,put⟩:=d.one;exact Oc Og mk f i g.iw e j λp b h l=>c b (put _ _ _ h l)
end
section
end
end Lf
namespace Lf
open Go Go.Proofs Go.ChangeShapes Go.WideShapes Go.ChangeAt Go.RowKit
section
variable {H:Type} {enc:TypeId×Value->H} {W:World}
theorem Yo :fR enc Tryz.prog W 27 λa=>∃(l:Sl) (b:List dZ),a=[l.v]/\gU W 3 vH (λx=>iE x.Kind/\iE x.N/\iE x.V) l b:=
 va (bW.cm 27 HX rfl) vH _ (sz:=3) (by kernel_rfl) (by rw [show Tryz.prog.bytesOf 65=24 by kernel_rfl];omega) Zn λ_=>rfl
end
section
variable {H:Type} {enc:TypeId×Value->H} {W:World}
theorem vB {v:Value} {d:DataW H} {r:List MemPlace} (h:DataW.Trod enc Tryz.prog W 0 (λ_=>true) true 29 v d r) (j:(DataW.weights Tryz.prog 29 d).all (· <=reachBytes)=true):
  ∃(x:bU) (c:bd) (S:List dZ),v=bf.enc x/\eo (whole W) (sH x) c/\Typed c/\Rs (whole W) fz 3 x.Steps S:=by
 obtain ⟨fuel,h⟩:=h;have a:=bW.cm 29 H3 rfl;have g:=xz a h;rw [show Tryz.prog.cellsOf 29=8 by kernel_rfl] at g;have l:Tryz.prog.cellsOf 27=1:=by kernel_rfl
 obtain ⟨x,p,n⟩:=iQ a h j (i:=0) (off:=0) rfl rfl AE AO;obtain ⟨s,S,q,o⟩:=iQ a h j (i:=1) (off:=7) rfl rfl l Yo;obtain ⟨A,k,at_,t⟩:=vD n;generalize f:v.cells.toList=b at*;refine ⟨⟨x.bg,x.Table,x.Fuel,x.gy,x.bR,x.Log,x.aC,s⟩,A,S,?_,k,at_,o.qx⟩;have e:b=b.drop 0:=rfl;rw [e,ir (m:=7) p rfl,ir (m:=8) q rfl,List.drop_of_length_le (Nat.le_of_eq g)] at f;exact CR f (by simp)
end
end Lf
