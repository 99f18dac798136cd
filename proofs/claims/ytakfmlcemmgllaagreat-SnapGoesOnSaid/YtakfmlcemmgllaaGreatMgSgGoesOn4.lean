/-
  Part 5 of the texts that the claim leans on.
-/
import Derived.Laws.StructEq
import Derived.Test.YtakfmlcemmgllaaGreatMgSgGoesOn3
set_option maxRecDepth 100000
namespace Lf
open Go Go.Proofs Tryz
def vT (x:bN):cd:=⟨x.cU,x.dt⟩
def Ap (x:eV):qS:=⟨x.eZ,x.cU,x.dt⟩
abbrev HY (h:Hp) (l:Sl) (a:List bN):Prop:=Rs h aC 2 l a
abbrev RY (h:Hp) (l:Sl) (a:List eV):Prop:=Rs h cW 3 l a
structure jA (h:Hp) (x:bF) (p:aX):Prop where
 values:Is h x.cF p.values
 waiters:∃ws,HY h x.bJ ws/\ws.map vT=p.waiters
 taken:x.jc=p.taken
 dropped:x.fL=p.dropped
structure eO (h:Hp) (x:aK) (p:aj):Prop where
 state:x.State=p.state
 pc:x.PC=p.pc
 aP: [x.cl,x.cm,x.cn,x.cp,x.cq,x.cv,x.cw,x.cC]=p.aP
 ai:x.Cursor=p.ai
 timer:x.Timer=p.timer
 bB:x.fH=p.bB
 bP:x.iU=p.bP
 ak:∃ls,Rs h bd 4 x.cR ls/\dR (jA h) ls p.ak
structure jB (h:Hp) (x:bM) (p:cJ):Prop where
 ai:x.Cursor=p.ai
 log:∃es,RY h x.Log es/\es.map Ap=p.log
 lost:x.lu=p.lost
 forbidden:x.dp=p.forbidden
 ax:Is h x.cE p.ax
 au:∃qs,Rs h aw 1 x.bQ qs/\dR (Is h) qs p.au
structure dw (h:Hp) (x:aH) (p:aR):Prop where
 tick:x.eZ=p.tick
 parts:∃ps,Rs h bx 6 x.cS ps/\dR (jB h) ps p.parts
 procs:∃ps,Rs h aI 15 x.aD ps/\dR (eO h) ps p.procs
section
variable {h b:Hp}
theorem jA.mono (c:h<=b) {x:bF} {p:aX} (a:jA h x p):jA b x p:=by obtain ⟨f,d,e⟩:=a.waiters;exact ⟨Rw.mono c a.values,⟨f,Rw.mono c d,e⟩,a.taken,a.dropped⟩
theorem eO.mono (c:h<=b) {x:aK} {p:aj} (a:eO h x p):eO b x p:=by obtain ⟨g,d,f⟩:=a.ak;exact ⟨a.state,a.pc,a.aP,a.ai,a.timer,a.bB,a.bP,g,Rw.mono c d,f.imp λ_ _ e=>e.mono c⟩
theorem jB.mono (c:h<=b) {x:bM} {p:cJ} (a:jB h x p):jB b x p:=by obtain ⟨es,d,f⟩:=a.log;obtain ⟨qs,g,i⟩:=a.au;exact ⟨a.ai,⟨es,Rw.mono c d,f⟩,a.lost,a.forbidden,Rw.mono c a.ax,qs,Rw.mono c g,i.imp λ_ _ e=>Rw.mono c e⟩
theorem dw.mono (c:h<=b) {x:aH} {p:aR} (a:dw h x p):dw b x p:=by obtain ⟨j,d,f⟩:=a.parts;obtain ⟨qs,g,i⟩:=a.procs;exact ⟨a.tick,⟨j,Rw.mono c d,f.imp λ_ _ e=>e.mono c⟩,qs,Rw.mono c g,i.imp λ_ _ e=>e.mono c⟩
end
structure iJ (h:Hp) (a:be) (c:aL) (s:aR):Prop where
 cfg:eT h ⟨a.dq,a.fw,a.iV,a.gC,a.fR,a.iL,a.bW⟩ c
 st:dw h ⟨a.kg,a.gz,a.cT⟩ s
 tab:∃t,a.t=some t/\uy h t c.labels
 ok:(fa c).1=0
 tO:Ez c s
 inU:∀x∈c.labels,qW x
theorem iJ.mono {h d:Hp} (b:h<=d) {a:be} {c:aL} {s:aR} (k:iJ h a c s):iJ d a c s:=by obtain ⟨t,e,f⟩:=k.tab;exact ⟨k.cfg.mono b,k.st.mono b,⟨t,e,f.mono b⟩,k.ok,k.tO,k.inU⟩
section
variable {h:Hp} {a:be} {c:aL} {s:aR}
theorem iJ.bounds (k:iJ h a c s):(1<=c.labels.length/\c.labels.length<=8)/\(0<=c.ag/\c.ag<=8)/\(0<=c.log/\c.log<=4096)/\(1<=c.lane/\c.lane<=64)/\(1<=c.procs.length/\c.procs.length<=32)/\
  ∀p∈c.procs,(0<=p.part/\p.part<=c.labels.length-1)/\p.code.length<=256/\∀x∈p.code,(ja x p.code.length c.ag).1=0:=by
 obtain ⟨e,m,n,o,q,g,d,i,j,f,b⟩:=fA.1 k.ok;obtain ⟨l,r,t⟩:=fN.1 e;have:=List.length_pos_iff.2 l;have:=List.length_pos_iff.2 j;refine ⟨⟨by omega,by omega⟩,d,i,g,⟨by omega,f⟩,λp hp=>⟨(b p hp).1,(yZ d).1 (b p hp).2⟩⟩
theorem RW {P:Program} {n:Int} {Q:Bool->Hp->Prop} (d:∀b,(b=true↔ji n)->Q b h):zty P n Q h:=by unfold zty;exact aE (d _ (by simp [ji]))
theorem Gg {P:Program} {n:Int} {Q:Bool->Hp->Prop} (d:∀b,(b=true↔n≠5/\n≠6)->Q b h):Nu P n Q h:=by unfold Nu;exact aE (d _ (by simp))
theorem BE {P:Program} (k:iJ h a c s) {p:Int} {i:Nat} {Q:Bool->Hp->Prop} (l:∀b,(b=true↔qF c p i)->Q b h):zov P a p (i:Int) Q h:=by
 unfold zov;obtain ⟨r,f,d⟩:=k.cfg.procs;have u:a.bW.len=r.length:=f.1;refine aE ?_;refine Rw.AB f (λ_=>rfl) (by omega) (sh:=af .i64) (λq=>q.Part) (λ_=>rfl) (0:Int) (λe=>by simp at e;omega) λx n=> ?_;refine aE (l _ ?_);unfold qF;constructor
 ·intro e;simp only [Bool.and_eq_true,decide_eq_true_eq,beq_iff_eq] at e;obtain ⟨q,g,m⟩:=n (by simp;omega);obtain ⟨y,j,o,_⟩:=d.get g;grind
 ·rintro ⟨t,y,j,o⟩;obtain ⟨q,g,m,_⟩:=d.get' j;grind
theorem TJ {P:Program} (k:iJ h a c s) {i:Nat} {Q:Int->Hp->Prop} (r:Q (og c i:Int) h):Yu P a (i:Int) Q h:=by
 unfold Yu;obtain ⟨b,m,g⟩:=k.cfg.procs;have A:a.bW.len=b.length:=m.1;have B:=g.len;obtain ⟨-, -, -, -,w, -⟩:=k.bounds;have p:∀j:Nat,((c.procs.take j).filter λy=>decide (y.part=(i:Int))).length<=j:=λj=>by grind
 refine bL.intro (λn j d=>d=h/\0<=j/\j<=(b.length:Int)/\n=(((c.procs.take j.toNat).filter λy=>decide (y.part=(i:Int))).length:Int)) (λ_ j _=>(b.length-j).toNat) ⟨rfl,by omega,by omega,rfl⟩ ?_;rintro n j d ⟨rfl,o,z,rfl⟩;by_cases l:j<(b.length:Int)
 ·rw [if_pos (iW)];refine dj.intro (λn f=>f=d/\n=(((c.procs.take (j.toNat+1)).filter λy=>decide (y.part=(i:Int))).length:Int)) ?_ ?_
  ·refine Rs.get (sh:=bT) m (λ_=>rfl) (by omega) o l λq t=> ?_;obtain ⟨y,u,v,_⟩:=g.get t;rw [List.take_add_one,u,List.filter_append];have x:=p j.toNat;by_cases hp:y.part=(i:Int)
   ·rw [if_pos (by rw [v];simpa using hp)];refine ⟨rfl,?_⟩;rw [aV];simp [hp]
   grind
  ·rintro n f ⟨rfl,rfl⟩;rw [aV];grind
 ·rw [if_neg (λe=>l (by grind))];rw [List.take_of_length_le (by omega)];exact r
theorem FF {P:Program} (k:iJ h a c s) {p:Int} {x:aj} {y:fI} (b:0<=p) (u:s.procs[p.toNat]? =some x) (v:c.procs[p.toNat]? =some y) {Q:aS->Hp->Prop}
  (f:∀n:aS,(jE y x.pc=some (bu n)\/(jE y x.pc=none/\n=⟨-1,0,0,0,0⟩))->Q n h):ZA P a p Q h:=by
 unfold ZA;obtain ⟨A,e,r⟩:=k.cfg.procs;obtain ⟨B,j,t⟩:=k.st.procs;have E:a.bW.len=A.length:=e.1;have F:a.cT.len=B.length:=j.1;obtain ⟨q,i,I,o,d,G⟩:=r.get' v;obtain ⟨z,m,w⟩:=t.get' u;have J:=(List.getElem?_eq_some_iff.1 i).1;have K:=(List.getElem?_eq_some_iff.1 m).1;refine Rw.wv e (λ_=>rfl) (by omega) (sh:=aw) (λq=>q.Code) (λ_=>rfl) b (by omega) λL g=> ?_;rw [i] at g;cases g;refine Rw.wv j (λ_=>rfl) (by omega) (sh:=af .i64) (λq=>q.PC) (λ_=>rfl) b (by omega) λM l=> ?_;rw [m] at l;cases l;dsimp only;rw [w.pc];have D:=d.1;have C:o.length=y.code.length:=by grind
 refine aE ?_;by_cases hb:x.pc<0\/(o.length:Int)<=x.pc
 ·rw [if_pos (by simp;omega)];refine f _ (.inr ⟨?_,rfl⟩);unfold jE;grind
 ·rw [if_neg (by simp;omega)];refine mE (sh:=aT) d λn H=> ?_;refine f n (.inl ?_);unfold jE;grind
theorem BF (k:iJ h a c s) {p:Int} {x:aj} {y:fI} (f:0<=p) (i:s.procs[p.toNat]? =some x) (j:c.procs[p.toNat]? =some y) {Q:Int->Hp->Prop}
  (g:∀n:Int,(∀m,0<=m->(n=m↔∃z,jE y x.pc=some z/\z.op=m))->Q n h):zow prog a p Q h:=by
 unfold zow;refine WQ (FF k f i j λn b=>g _ λm l=> ?_);rcases b with b | ⟨b,rfl⟩
 ·rw [b];constructor
  ·intro e;exact ⟨_,rfl,e⟩
  ·rintro ⟨z,e,d⟩;cases e;exact d
 grind
end
theorem lO {a:Type} {c:Bool} {A:(a->Hp->Prop)->Hp->Prop} {K:a->Hp->Prop} {h:Hp} (p:a->Prop) (f:a) (g:c=true->(∀x,p x->K x h)->A K h) (d:∀x,(c=true->p x)->K x h):dm (some c) A K h:=
 ⟨λb=>g b λx hp=>d x λ_=>hp,λb=>⟨f,d f λe=>by grind⟩⟩
theorem pM {sh:Shape} {c:Bool} {h:Hp} {a:Addr} {K:sh.T->Prop} (x:sh.T) (d:aZ h a (bA (sh.enc x))) (b:K x):aN (some c) sh h a K:=⟨x,λ_=>d,b⟩
theorem Ij {h:Hp} {cs:List Value} {K:Addr->Hp->Prop} (c:∀b a,h<=a->eS a b cs->K ⟨b,0,none⟩ a):bc cs K h:=λb t d=>c b _ (mY d) ⟨t,nz⟩
def EA (a:be):List Value:=[a.dq.v,a.fw.v,(.int .i64 a.iV),(.int .i64 a.gC),(.int .i64 a.fR),(.int .i64 a.iL),a.bW.v,(.int .i64 a.kg),a.gz.v,a.cT.v,(.pointer a.t)]
section
variable {h:Hp} {a:be} {c:aL} {s:aR}
theorem adP (k:iJ h a c s) {i:Nat} {p:Int} {a1 a2:Addr} {Q:Bool->Hp->Prop} (w:aZ h a1 (EA a)) (I:aZ h a2 [.int .i64 (i:Int)])
  (B:∀b,(b=true↔¬(p≠ -1->qF c p i/\Iy s p λz=>z.state≠5/\z.state≠6))->Q b h):WH prog p a1 a2 Q h:=by
 unfold WH;refine pM (sh:=bz) a w (pM (sh:=af .i64) (i:Int) I ?_);refine lO (λb=>b=true↔qF c p i) false (λ_ m=>QW (BE k m)) λr d=> ?_;obtain ⟨J,C,o⟩:=k.st.procs;have M:s.procs.length=c.procs.length:=k.tO.2.2;have N:=o.len;have l:((p !=(-1:Int))&&(!(!r)))=true->0<=p/\p<(J.length:Int):=λe=>by simp at e;obtain ⟨L,y,O,_⟩:=(d (by simpa using e.1)).1 e.2;grind
 refine pM (sh:=aw) a.cT (λj v hv=> ?_) ?_
 ·cases j with
  | zero=>exact w 9 v (by simpa [EA,bA,aw,Sl.v] using hv)
  | succ j=>simp [bA,aw,Sl.v] at hv
 refine Rw.AB C (λ_=>rfl) (by omega) (sh:=af .i64) (λq=>q.State) (λ_=>rfl) (0:Int) l λx n=> ?_;refine lO (λb=>b=true↔x≠5/\x≠6) false (λ_ m=>Ht (Gg m)) λS f=> ?_;refine aE (aE (B _ ?_));by_cases hp:p= -1
 ·subst hp;simp
 ·have d:=d (by simpa using hp);have u:(p !=(-1:Int))=true:=by simpa using hp
  rw [u,Bool.true_and];rw [u] at l n f;cases D:r with
  | false=>grind
  | true=>
   rw [D] at d l n f;have f:=f rfl;obtain ⟨z,E,H⟩:=n rfl;obtain ⟨K,F,G⟩:=o.get E;have A:=d.1 rfl;simp only [Bool.not_true,Bool.false_or,Bool.not_eq_true'];rw [<-Bool.not_eq_true,f,H,G.state];constructor
   ·intro t g;obtain ⟨_,T,P,R⟩:=g hp;grind
   ·intro t g;exact t λ_=>⟨A,K,F,g⟩
open Classical in
theorem TK (k:iJ h a c s) {i:Nat} {x:cJ} (hx:s.parts[i]? =some x) {Q:Bool->Hp->Prop} (D:∀b l,h<=l->(b=true↔vu c s i x)->Q b l):Yo prog a (i:Int) Q h:=by
 unfold Yo;refine Ij (cs:=EA a) λb O b5 a8=>Ij (cs:=[Value.int .i64 (i:Int)]) λH u S a9=> ?_;have B:=a8.le S;have E:aZ u ⟨H,0,none⟩ [Value.int .i64 (i:Int)]:=a9.bU (off:=0) (n:=1) rfl;have w:=Hp.le_trans b5 S;have G:=k.mono w;obtain ⟨ps,b8,b0⟩:=G.st.parts;obtain ⟨y,V,t⟩:=b0.get' hx;have d6:=(List.getElem?_eq_some_iff.1 V).1;obtain ⟨-,⟨c6,c7⟩,⟨c4,c5⟩, -,⟨c8,c9⟩, -⟩:=k.bounds;obtain ⟨A,R,d1⟩:=t.log;have d0:y.Log.len=A.length:=R.1;have d2:y.cE.len=x.ax.length:=t.ax.1;obtain ⟨qs,b9,b1⟩:=t.au;have d3:y.bQ.len=qs.length:=b9.1;have d4:=b1.len;have d5:x.log.length=A.length:=by grind
 have b3:a.iL=c.log:=k.cfg.log;have b2:a.fR=c.ag:=k.cfg.ag;have c1:a.kg=s.tick:=k.st.tick;have M:aZ u ⟨b,0,none⟩ (bA (bz.enc a)):=B.bU (off:=0) (n:=11) rfl;have X:∀l:Hp,u<=l->aZ l ((Addr.add (Addr.add ⟨b,0,none⟩ 0) 5)) (bA ((af .i64).enc a.iL)):=λl J=>nE J (B.bU (off:=5) (n:=1) rfl);have W:∀l:Hp,u<=l->aZ l ((Addr.add (Addr.add ⟨b,0,none⟩ 0) 4)) (bA ((af .i64).enc a.fR)):=λl J=>nE J (B.bU (off:=4) (n:=1) rfl);have c2:aZ u ((Addr.add (Addr.add ⟨b,0,none⟩ 7) 0)) (bA ((af .i64).enc a.kg)):=B.bU (off:=7) (n:=1) rfl;refine bg (sh:=aw) a.gz (B.bU (off:=8) (n:=1) rfl) ?_;refine bg (sh:=af .i64) (i:Int) E ?_;refine mE (sh:=bx) b8 λy' F=> ?_;have F:ps[i]? =some y':=F;rw [V] at F;cases F;refine pM (sh:=bz) a M (pM (sh:=af .i64) (i:Int) E ?_);refine lO (λn=>n=(og c i:Int)) 0 (λ_ o=>zzo (TJ G (o _ rfl))) λ(r:Int) hr=> ?_;refine ⟨⟨trivial,trivial⟩,aE (aE (pM (sh:=af .i64) a.iL (X _ (Hp.le_refl _)) (aE ?_)))⟩;rw [t.ai] at hr ⊢;have P:(((decide (x.ai<(0:Int))) || ((decide (x.ai>(0:Int)))&&(decide (x.ai>=r)))) || (decide (((y.Log.len:Nat):Int)>a.iL)))=true↔¬(0<=x.ai/\(0<x.ai->x.ai<og c i)/\(x.log.length:Int)<=c.log):=by grind
 by_cases C:0<=x.ai/\(0<x.ai->x.ai<og c i)/\(x.log.length:Int)<=c.log
 ·rw [if_neg (λe=>P.1 e C)];have c3:=C.2.2;refine bL.intro (λlast j l=>l=u/\0<=j/\j<=(A.length:Int)/\(sW c s i 0 x.log↔sW c s i last (x.log.drop j.toNat))) (λ_ j _=>(A.length-j).toNat) ⟨rfl,by omega,by omega,by simp⟩ ?_;rintro last j h4 ⟨rfl,Z,hj,v⟩;by_cases T:j<(A.length:Int)
  ·rw [if_pos (iW)];refine Rs.get (sh:=cW) R (λ_=>rfl) (by omega) Z T λe he=> ?_;have I:x.log.drop j.toNat=Ap e::x.log.drop (j.toNat+1):=by
    have O:j.toNat<x.log.length:=by omega
    rw [List.drop_eq_getElem_cons O];grind
   rw [I] at v;refine pM (sh:=af .i64) a.kg c2 (aE (pM (sh:=bz) a M (pM (sh:=af .i64) (i:Int) E ?_)));refine lO (λb=>b=true↔qF c e.cU i) false (λ_ o=>QW (BE G o)) λN q=>aE ?_;rw [c1] at q ⊢;by_cases L:last<=e.eZ/\e.eZ<s.tick
   ·have c0:((decide (e.eZ<last)) || (decide (e.eZ>=s.tick)))=false:=by simp;omega
    rw [c0] at q ⊢;have q:=q rfl;cases N with
    | true=>
     rw [jO,aV];refine ⟨⟨rfl,by omega,by omega,?_⟩,by omega⟩;have:(j+1).toNat=j.toNat+1:=by omega
     rw [this,v];exact ⟨λd=>d.2.2.2,λd=>⟨L.1,L.2,q.1 rfl,d⟩⟩
    | false=>rw [if_pos (by simp)];refine D _ _ w ⟨λe=>(by cases e),λd=> ?_⟩;exact absurd (q.2 (v.1 d.2.1).2.2.1) (by simp)
   ·rw [if_pos (by simp;omega)];refine D _ _ w ⟨λe=>(by cases e),λd=> ?_⟩;have:=v.1 d.2.1;exact absurd ⟨this.1,this.2.1⟩ L
  ·rw [if_neg (λe=>T (by grind))];have b7:x.log.drop j.toNat=[]:=List.drop_eq_nil_iff.2 (by omega);rw [b7] at v;have b6:sW c s i 0 x.log:=v.2 trivial;refine Rc (RW λN q=> ?_);refine lO (λb=>b=true↔ji y.dp) false (λ_ o=>Rc (RW o)) λr2 U=>aE ?_;refine pM (sh:=af .i64) a.iL (X _ (Hp.le_refl _)) (aE (aE (pM (sh:=af .i64) a.fR (W _ (Hp.le_refl _)) (aE (pM (sh:=af .i64) a.fR (W _ (Hp.le_refl _)) (aE ?_))))));rw [t.lost] at q ⊢;rw [t.forbidden] at U;rw [b3,b2];by_cases m:ji x.lost/\ji x.forbidden/\(0<x.lost->c.log<=x.log.length)/\(x.ax.length:Int)=c.ag/\(x.au.length:Int)=c.ag
   ·have Y:N=true:=q.2 m.1;have e2:r2=true:=(U (by simp [Y])).2 m.2.1;have h3:=m.2.2;rw [if_neg (by grind)];refine zpm (f:=⟨QU, #[], #[.pointer (some ⟨b,0,none⟩),.pointer (some ⟨H,0,none⟩)]⟩) ?_;unfold zib;refine Ud (f:=⟨QU, #[], #[.pointer (some ⟨b,0,none⟩),.pointer (some ⟨H,0,none⟩)]⟩) (D0 (p:=λp=>decide (¬(p≠ -1->qF c p i/\Iy s p λz=>z.state≠5/\z.state≠6))) t.ax (by omega) (λz _ kk K o hK=> ?_) λn l b4 hi=> ?_)
    ·refine xA (g:=QU) rfl (zwd ?_);refine adP (G.mono o) (i:=i) (nE o M) (nE o E) λb hb=> ?_;grind
    ·refine D _ l (Hp.le_trans w b4) ?_;have hb:(!(decide (n>=0)))=true↔¬(0<=n):=by simp
     refine Iff.trans hb ?_;rw [hi,List.any_eq_true];constructor
     ·intro d;refine ⟨C,b6,m.1,m.2.1,m.2.2.1,m.2.2.2.1,m.2.2.2.2,λp hp=> ?_⟩;grind
     ·rintro d ⟨p,hp,I⟩;exact (of_decide_eq_true I) (d.2.2.2.2.2.2.2 p hp)
   ·rw [if_pos ?_]
    ·refine D _ _ w ⟨λe=>(by cases e),λd=> ?_⟩;exact absurd ⟨d.2.2.1,d.2.2.2.1,d.2.2.2.2.1,d.2.2.2.2.2.1,d.2.2.2.2.2.2.1⟩ m
    grind
 ·rw [if_pos (P.2 C)];exact D _ _ w ⟨λe=>(by cases e),λd=>absurd d.1 C⟩
end
def qy {e f:Type} (R:e->f->Hp->List Nat->Prop):List e->List f->Hp->List Nat->Prop
 | [],[],_,B=>B=[]
 | a::l,b::m,h,B=>∃c d,B=c++d/\R a b h c/\qy R l m h d
 | _,_,_,_=>False
structure gA {α β:Type} (R:α->β->Hp->List Nat->Prop):Prop where
 same:∀ {a b h h' B},R a b h B->(∀c∈B,h' c=h c)->R a b h' B
 known:∀ {a b h B},R a b h B->∀c∈B,h c≠none
section
variable {α β:Type} {R:α->β->Hp->List Nat->Prop} {h d:Hp}
theorem qy.same (ok:gA R):∀ {l:List α} {m:List β} {B:List Nat},qy R l m h B->(∀c∈B,d c=h c)->qy R l m d B
 | [],[],_,o,_=>o
 | _::_,_::_,_,⟨b,f,e,i,j⟩,a=>⟨b,f,e,ok.same i λc g=>a c (by grind),qy.same ok j λc g=>a c (by grind)⟩
 | [],_::_,_,o,_=>o.elim
 | _::_,[],_,o,_=>o.elim
theorem qy.known (ok:gA R):∀ {l:List α} {m:List β} {B:List Nat},qy R l m h B->∀c∈B,h c≠none
 | [],[],_,o,c,hc=>by rw [show _=[] from o] at hc;cases hc
 | _::_,_::_,_,⟨f,g,e,a,b⟩,c,hc=>by
  rw [e] at hc;rcases List.mem_append.1 hc with hc | hc
  ·exact ok.known a c hc
  ·exact qy.known ok b c hc
 | [],_::_,_,o,_,_=>o.elim
 | _::_,[],_,o,_,_=>o.elim
theorem qy.snoc {a:α} {b:β} {B':List Nat} (e:R a b h B'):∀ {l:List α} {m:List β} {B:List Nat},qy R l m h B->qy R (l++ [a]) (m++ [b]) h (B++B')
 | [],[],_,o=>by rw [show _=[] from o];exact ⟨B',[],by simp,e,rfl⟩
 | _::_,_::_,_,⟨c,f,j,g,i⟩=>⟨c,f++B',by grind,g,qy.snoc e i⟩
 | [],_::_,_,o=>o.elim
 | _::_,[],_,o=>o.elim
theorem qy.Dg {S:α->β->Prop} (c:∀a b B,R a b h B->S a b):∀ {l:List α} {m:List β} {B:List Nat},qy R l m h B->dR S l m
 | [],[],_,_=>trivial
 | _::_,_::_,_,⟨e,_,_,f,g⟩=>⟨c _ _ e f,qy.Dg c g⟩
 | [],_::_,_,o=>o.elim
 | _::_,[],_,o=>o.elim
theorem dF.one {sz:Nat} {enc:α->List Value} {l:Sl} {a:List α} {F:List Nat} (o:dF h sz enc l a F):F=[]\/∃b,F=[b]:=by obtain ⟨_,_,o⟩:=o;grind
theorem dF.nodup {sz:Nat} {enc:α->List Value} {l:Sl} {a:List α} {F:List Nat} (o:dF h sz enc l a F):F.Nodup:=by rcases o.one with e | ⟨b,e⟩<;>rw [e]<;>simp
end
def dN {c d:Type} (S:c->d->Prop) (a:c) (b:d) (_:Hp) (B:List Nat):Prop:=B=[]/\S a b
theorem dN.ok {b β:Type} (S:b->β->Prop):gA (dN S):=⟨λo _=>o,λo c a=>by rw [o.1] at a;cases a⟩
def bh {c:Type} (sh:Shape) (sz:Nat) (R:sh.T->c->Hp->List Nat->Prop) (l:Sl) (d:List c) (h:Hp) (B:List Nat):Prop:=
 ∃(xs:List sh.T) (a b:List Nat),B=a++b/\dF h sz (λx=>bA (sh.enc x)) l xs a/\qy R xs d h b
section
variable {β:Type} {sh:Shape} {sz:Nat} {R:sh.T->β->Hp->List Nat->Prop} {l:Sl} {ps:List β} {h d:Hp} {B:List Nat}
theorem bh.nil :bh sh sz R ⟨none,0,0⟩ [] h []:=⟨[],[],[],rfl,⟨rfl,Nat.le_refl _,.inl ⟨rfl,rfl,rfl⟩⟩,rfl⟩
theorem bh.ok (ok:gA R):gA (bh sh sz R) where
 same:=by rintro a b h d B ⟨xs,i,j,e,f,g⟩ k;exact ⟨xs,i,j,e,f.same λc hc=>k c (by grind),g.same ok λc hc=>k c (by grind)⟩
 known:=by
  rintro a b h B ⟨xs,i,j,e,f,g⟩ c hc;rw [e] at hc;rcases List.mem_append.1 hc with hc | hc
  ·exact f.known c hc
  ·exact g.known ok c hc
theorem bh.len (o:bh sh sz R l ps h B):l.len=ps.length:=by obtain ⟨xs,c,f,e,a,b⟩:=o;have:=(b.Dg (S:=λ_ _=>True) λ_ _ _ _=>trivial).len;rw [<-this];exact a.1
theorem bh.rows {S:sh.T->β->Prop} (f:∀x,(bA (sh.enc x)).length=sz) (g:∀a b B,R a b h B->S a b) (o:bh sh sz R l ps h B):∃c,Rs h sh sz l c/\dR S c ps:=by obtain ⟨c,k,m,e,i,j⟩:=o;exact ⟨c,i.rw f,j.Dg g⟩
theorem C8 (ok:gA R) (o:bh sh sz R l ps h B) {v:sh.T} {p:β} {B':List Nat} (e:R v p h B') (nd:(B++B').Nodup) {x:Sl} (J:Rs h sh sz x [v]) (D:∀x,(bA (sh.enc x)).length=sz) (I:∀x,jL (bA (sh.enc x))=true)
  {zero:List Value} {bytes:Nat} (M:zero.length=sz) (hb:ps.length+1<=140737488355328/\(ps.length+1)*bytes<=140737488355328) {K:Sl->Hp->Prop}
  (F:∀i d k,bh sh sz R i (ps++ [p]) d k->k.Nodup->(∀b j,h b=some j->b∉B->d b=some j)->(∀c∈k,c∈B++B'\/h c=none)->K i d):eC sz bytes zero l x K h:=by
 have G:=o.len;obtain ⟨w,y,f,g,s,u⟩:=o;have L:w.length=ps.length:=by rw [<-G];exact s.1.symm
 have N:=u.known ok;have O:=ok.known e;refine xV s J D I M (by rw [L];exact hb) λi d n t m=> ?_;rw [g] at nd;have W:=nd;rw [List.append_assoc,List.nodup_append] at nd;obtain ⟨V,Q,S⟩:=nd;have q:∀c∈f++B',c∉y:=λc hc hb=>S c hb c hc rfl;have P:∀c∈f++B',h c≠none:=λc hc=>by
  rcases List.mem_append.1 hc with hc | hc
  ·exact N c hc
  ·exact O c hc
 have r:∀c∈f++B',d c=h c:=vb m P q;have U:=(u.same ok λc hc=>r c (List.mem_append_left _ hc)).snoc (ok.same e λc hc=>r c (List.mem_append_right _ hc));have E:∀c∈n++(f++B'),c∈B++B'\/h c=none:=λc hc=>by
  rcases List.mem_append.1 hc with hc | hc
  ·rcases m.from_ c hc with hc | hc
   ·exact .inl (by rw [g];simp [hc])
   ·exact .inr hc
  ·refine .inl ?_;rw [g,List.append_assoc];exact List.mem_append_right _ hc
 refine F i d (n++(f++B')) ⟨w++ [v],n,f++B',rfl,t,U⟩ ?_ (λb j hb H=>m.bO b j hb λC=>H (by rw [g];simp [C])) E;rw [List.nodup_append];refine ⟨t.nodup,Q,λa z b hb A=> ?_⟩;subst A;rcases m.from_ a z with hc | hc
 ·exact q a hb hc
 grind
end
abbrev we (l:Sl) (a:List Int) (h:Hp) (B:List Nat):Prop:=bh (af .i64) 1 (dN Eq) l a h B
abbrev QD (l:Sl) (a:List Int) (h:Hp) (B:List Nat):Prop:=bh (af .u64) 1 (dN Eq) l a h B
abbrev wc (l:Sl) (xs:List df) (h:Hp) (B:List Nat):Prop:=bh aT 5 (dN λx p=>bu x=p) l xs h B
def rf (q:bR) (p:fI) (h:Hp) (B:List Nat):Prop:=q.Part=p.part/\wc q.Code p.code h B
abbrev Oa (l:Sl) (a:List fI) (h:Hp) (B:List Nat):Prop:=bh bT 2 rf l a h B
def pz (x:bF) (p:aX) (h:Hp) (B:List Nat):Prop:=
 ∃a b,B=a++b/\we x.cF p.values h a/\bh aC 2 (dN λx p=>vT x=p) x.bJ p.waiters h b/\x.jc=p.taken/\x.fL=p.dropped
def kj (x:aK) (p:aj) (h:Hp) (B:List Nat):Prop:=
 bh bd 4 pz x.cR p.ak h B/\x.State=p.state/\x.PC=p.pc/\ [x.cl,x.cm,x.cn,x.cp,x.cq,x.cv,x.cw,x.cC]=p.aP/\x.Cursor=p.ai/\x.Timer=p.timer/\x.fH=p.bB/\x.iU=p.bP
def q7 (x:bM) (p:cJ) (h:Hp) (B:List Nat):Prop:=
 ∃a b c,B=a++(b++c)/\bh cW 3 (dN λx p=>Ap x=p) x.Log p.log h a/\we x.cE p.ax h b/\bh aw 1 we x.bQ p.au h c/\x.Cursor=p.ai/\x.lu=p.lost/\x.dp=p.forbidden
def lL (x:aH) (p:aR) (h:Hp) (B:List Nat):Prop:=
 ∃a b,B=a++b/\bh bx 6 q7 x.cS p.parts h a/\bh aI 15 kj x.aD p.procs h b/\x.eZ=p.tick
def mo (x:an) (c:aL) (h:Hp) (B:List Nat):Prop:=
 ∃a b d,B=a++(b++d)/\QD x.aQ c.labels h a/\we x.Table c.table h b/\Oa x.aD c.procs h d/\x.Fuel=c.fuel/\x.fD=c.lane/\x.bE=c.ag/\x.Log=c.log
theorem ft :gA we:=bh.ok (dN.ok _)
theorem uS :gA QD:=bh.ok (dN.ok _)
theorem ns :gA wc:=bh.ok (dN.ok _)
theorem xj :gA rf:=⟨λo a=>⟨o.1,ns.same o.2 a⟩,λo=>ns.known o.2⟩
theorem mi :gA Oa:=bh.ok xj
theorem cg {a b:List Nat} {c:Nat} (h:c∈a):c∈a++b:=List.mem_append_left _ h
theorem cc {b a:List Nat} {c:Nat} (h:c∈a):c∈b++a:=List.mem_append_right _ h
theorem jI :gA pz where
 same:=by rintro a b h k B ⟨f,g,rfl,d,e,j⟩ i;exact ⟨f,g,rfl,ft.same d λc hc=>i c (cg hc),(bh.ok (dN.ok _)).same e λc hc=>i c (cc hc),j⟩
 known:=by
  rintro a b h B ⟨f,g,rfl,d,e,j⟩ c hc;rcases List.mem_append.1 hc with hc | hc
  ·exact ft.known d c hc
  ·exact (bh.ok (dN.ok _)).known e c hc
theorem fY :gA kj:=⟨λo a=>⟨(bh.ok jI).same o.1 a,o.2⟩,λo=>(bh.ok jI).known o.1⟩
theorem kU :gA q7 where
 same:=by rintro a b h m B ⟨i,j,k,rfl,e,f,g,l⟩ d;exact ⟨i,j,k,rfl,(bh.ok (dN.ok _)).same e λc hc=>d c (cg hc),ft.same f λc hc=>d c (cc (cg hc)),(bh.ok ft).same g λc hc=>d c (cc (cc hc)),l⟩
 known:=by
  rintro a b h B ⟨i,j,k,rfl,e,f,g,l⟩ c hc;rcases List.mem_append.1 hc with hc | hc
  ·exact (bh.ok (dN.ok _)).known e c hc
  ·rcases List.mem_append.1 hc with hc | hc
   ·exact ft.known f c hc
   ·exact (bh.ok ft).known g c hc
theorem nu :gA lL where
 same:=by rintro a b h k B ⟨f,g,rfl,d,e,j⟩ i;exact ⟨f,g,rfl,(bh.ok kU).same d λc hc=>i c (cg hc),(bh.ok fY).same e λc hc=>i c (cc hc),j⟩
 known:=by
  rintro a b h B ⟨f,g,rfl,d,e,j⟩ c hc;rcases List.mem_append.1 hc with hc | hc
  ·exact (bh.ok kU).known d c hc
  ·exact (bh.ok fY).known e c hc
theorem fp :gA mo where
 same:=by rintro a b h m B ⟨i,j,k,rfl,e,f,g,l⟩ d;exact ⟨i,j,k,rfl,uS.same e λc hc=>d c (cg hc),ft.same f λc hc=>d c (cc (cg hc)),mi.same g λc hc=>d c (cc (cc hc)),l⟩
 known:=by
  rintro a b h B ⟨i,j,k,rfl,e,f,g,l⟩ c hc;rcases List.mem_append.1 hc with hc | hc
  ·exact uS.known e c hc
  ·rcases List.mem_append.1 hc with hc | hc
   ·exact ft.known f c hc
   ·exact mi.known g c hc
theorem GZ {a:Type}:∀ {l m:List a},dR Eq l m->l=m
 | [],[],_=>rfl
 | _::_,_::_,h=>by rw [h.1,GZ h.2]
 | [],_::_,h=>h.elim
 | _::_,[],h=>h.elim
theorem BG {a b:Type} {f:a->b}:∀ {l:List a} {m:List b},dR (λx p=>f x=p) l m->l.map f=m
 | [],[],_=>rfl
 | _::_,_::_,h=>by rw [List.map_cons,h.1,BG h.2]
 | [],_::_,h=>h.elim
 | _::_,[],h=>h.elim
section
variable {h:Hp} {B:List Nat}
theorem we.rd {l:Sl} {xs:List Int} (o:we l xs h B):Is h l xs:=by obtain ⟨e,c,d⟩:=bh.rows (S:=Eq) (λ_=>rfl) (λa b B o=>o.2) o;rw [<-GZ d];exact c
theorem QD.rd {l:Sl} {xs:List Int} (o:QD l xs h B):Us h l xs:=by obtain ⟨e,c,d⟩:=bh.rows (S:=Eq) (λ_=>rfl) (λa b B o=>o.2) o;rw [<-GZ d];exact c
theorem rf.rd {q:bR} {p:fI} (o:rf q p h B):mU h q p:=by obtain ⟨e,o⟩:=o;obtain ⟨f,c,d⟩:=bh.rows (S:=λx p=>bu x=p) (λ_=>rfl) (λa b B o=>o.2) o;exact ⟨e,f,c,BG d⟩
theorem mo.rd {x:an} {c:aL} (o:mo x c h B):eT h x c:=by obtain ⟨i,j,k,_,e,f,g,f1,f2,f3,d⟩:=o;exact ⟨e.rd,f.rd,f1,f2,f3,d,bh.rows (λ_=>rfl) (λa b B o=>o.rd) g⟩
theorem pz.rd {x:bF} {p:aX} (o:pz x p h B):jA h x p:=by obtain ⟨i,j,_,e,f,f1,f2⟩:=o;obtain ⟨g,c,d⟩:=bh.rows (S:=λx p=>vT x=p) (λ_=>rfl) (λa b B o=>o.2) f;exact ⟨e.rd,⟨g,c,BG d⟩,f1,f2⟩
theorem kj.rd {x:aK} {p:aj} (o:kj x p h B):eO h x p:=by obtain ⟨g,f1,f2,f3,c,d,e,f⟩:=o;exact ⟨f1,f2,f3,c,d,e,f,bh.rows (λ_=>rfl) (λa b B o=>o.rd) g⟩
theorem q7.rd {x:bM} {p:cJ} (o:q7 x p h B):jB h x p:=by obtain ⟨j,k,l,_,e,f,g,f1,f2,f3⟩:=o;obtain ⟨i,c,d⟩:=bh.rows (S:=λx p=>Ap x=p) (λ_=>rfl) (λa b B o=>o.2) e;exact ⟨f1,⟨i,c,BG d⟩,f2,f3,f.rd,bh.rows (λ_=>rfl) (λa b B o=>we.rd o) g⟩
theorem lL.rd {x:aH} {p:aR} (o:lL x p h B):dw h x p:=by obtain ⟨e,f,_,c,d,f1⟩:=o;exact ⟨f1,bh.rows (λ_=>rfl) (λa b B o=>o.rd) c,bh.rows (λ_=>rfl) (λa b B o=>o.rd) d⟩
end
def kC {d f:Type} {R:d->f->Hp->List Nat->Prop} (ok:gA R) (v:d) (p:f):eD where
 R k F:=∃B,R v p k B/\B.Nodup/\∀b,F b↔b∈B
 same:=λ⟨B,h,n,e⟩ g=>⟨B,ok.same h λc a=>g c ((e c).2 a),n,e⟩
 known:=λ⟨B,h,n,e⟩ c a=>ok.known h c ((e c).1 a)
def gB {d:Type} (sz:Nat) (enc:d->List Value) (l:Sl) (g:List d):eD where
 R k F:=∃B,dF k sz enc l g B/\∀b,F b↔b∈B
 same:=λ⟨B,h,e⟩ f=>⟨B,h.same λc a=>f c ((e c).2 a),e⟩
 known:=λ⟨B,h,e⟩ c a=>h.known c ((e c).1 a)
section
variable {h0 k:Hp} {α β:Type} {R:α->β->Hp->List Nat->Prop} {ok:gA R}
theorem Has.as_ {v:α} {p:β} (o:Has h0 (kC ok v p) k):∃B,R v p k B/\B.Nodup/\∀b∈B,h0 b=none:=by obtain ⟨_,F,⟨B,h,n,e⟩,a⟩:=o;grind
theorem Has.uR {v:α} {p:β} {B:List Nat} (c:h0<=k) (h:R v p k B) (n:B.Nodup) (a:∀b∈B,h0 b=none):Has h0 (kC ok v p) k:=⟨c,(· ∈B),⟨B,h,n,λ_=>Iff.rfl⟩,a⟩
theorem Has.ym {sz:Nat} {enc:α->List Value} {l:Sl} {a:List α} (o:Has h0 (gB sz enc l a) k):Has h0 (ff sz enc l a) k:=by obtain ⟨d,F,⟨B,h,e⟩,c⟩:=o;exact Has.Dx h d λb hb=>c b ((e b).2 hb)
theorem Gh {b c:Type} {S:b->c->Prop} {h:Hp}:∀ {l:List b} {m:List c},dR S l m->qy (dN S) l m h []
 | [],[],_=>rfl
 | _::_,_::_,a=>⟨[],[],rfl,⟨rfl,a.1⟩,Gh a.2⟩
 | [],_::_,a=>a.elim
 | _::_,[],a=>a.elim
theorem Has.two {i j:Type} {f:i->j->Hp->List Nat->Prop} {l:gA f} {v:α} {p:β} {h:i} {g:j} (o:Has h0 ((kC ok v p).star (kC l h g)) k):
  ∃B c,R v p k B/\f h g k c/\(B++c).Nodup/\∀b∈B++c,h0 b=none:=by
 obtain ⟨_,F,⟨m,q,e,d,⟨B,a,n,r⟩,⟨c,b,u,s⟩⟩,t⟩:=o;grind
theorem Has.row {j:Type} {sh:Shape} {sz:Nat} {Q:sh.T->j->Hp->List Nat->Prop} {okQ:gA Q} {l:Sl} {g:List j} {v:sh.T} {p:j} {cs zero:List Value} {bytes:Nat} {K:Sl->Hp->Prop} (o:Has h0 ((kC (bh.ok (sh:=sh) (sz:=sz) okQ) l g).star (kC okQ v p)) k)
  (u:cs=bA (sh.enc v)) (i:∀x,(bA (sh.enc x)).length=sz) (D:∀x,jL (bA (sh.enc x))=true) (E:zero.length=sz) (hb:g.length+1<=140737488355328/\(g.length+1)*bytes<=140737488355328)
  (z:∀f d,Has h0 (kC (bh.ok (sh:=sh) (sz:=sz) okQ) f (g++ [p])) d->K f d):bc cs (λa m=>eC sz bytes zero l ⟨some a,1,1⟩ K m) k:=by
 refine oh (xs:=[v]) (sz:=sz) (enc:=λx=>bA (sh.enc x)) (by rw [u];simp) i λa m C n=> ?_;have o:=o.grow C;obtain ⟨B,H,r,e,nd,w⟩:=o.two;refine C8 okQ r e nd (n.mO i) i D E hb λf d I G F A y=> ?_;refine z f d (Has.uR (λb q s=>A b q (o.1 b q s) λhb=> ?_) G F λc t=> ?_)
 ·grind
 ·rcases y c t with h | h
  ·exact w c h
  ·exact qj o.1 h
theorem Has.pP {a:Type} {sh:Shape} {sz:Nat} {Q:sh.T->a->Hp->List Nat->Prop} {okQ:gA Q} (b:h0<=k):Has h0 (kC (bh.ok (sh:=sh) (sz:=sz) okQ) (⟨none,0,0⟩:Sl) ([]:List a)) k:=
 Has.uR b bh.nil .nil λ_ h=>by cases h
theorem Has.kq {d:Type} {sh:Shape} {sz:Nat} {enc:d->List Value} {S:sh.T->d->Prop} {f:d->sh.T} {l:Sl} {c:List d} (o:Has h0 (gB sz enc l c) k) (n:∀x,enc x=bA (sh.enc (f x))) (j:∀x,S (f x) x):
  Has h0 (kC (bh.ok (sh:=sh) (sz:=sz) (dN.ok S)) l c) k:=by
 obtain ⟨q,F,⟨B,⟨s,h,t⟩,e⟩,p⟩:=o;have u:c.flatMap enc=(c.map f).flatMap λx=>bA (sh.enc x):=by rw [List.flatMap_map];congr 1;exact funext n
 have i:∀m:List d,dR S (m.map f) m:=λm=>by
  induction m with
  | nil=>trivial
  | cons a m r=>exact ⟨j a,r⟩
 have g:dF k sz (λx=>bA (sh.enc x)) l (c.map f) B:=⟨by grind,h,by grind⟩;refine Has.uR q ⟨c.map f,B,[],by simp,g,Gh (i c)⟩ g.nodup λb hb=>p b ((e b).2 hb)
theorem Aj {P:Program} {sz:Nat} {enc:α->List Value} {s:Sl} {xs:List α} {p B bytes:Nat} {zero:List Value} {x y:Operand} {Q:Sl->Hp->Prop} (w:P.underlying p=some (.slice B)) (r:Rw k sz enc s xs) (G:0<sz) (j:∀x,(enc x).length=sz) (u:∀x,jL (enc x)=true) (z:zero.length=sz)
  (hb:xs.length<=140737488355328/\xs.length*bytes<=140737488355328) (l:∀f d,k<=d->Has k (gB sz enc f xs) d->Q f d):
  jC none P (dx .eql p x y s.v (.slice none 0 0)) bH k λx=>(if x=true then Q ⟨none,0,0⟩ k else bc [] (λa q=>eC sz bytes zero ⟨(some a),0,0⟩ s (λr t=>Q r t) q) k):=by
 refine ⟨s.base.isNone,RM w s,?_⟩;cases D:s.base with
 | none=>
  rw [if_pos (show (none:Option Addr).isNone=true from rfl)];have:xs=[]:=by
   rcases r.2.2 with e | ⟨a,C,_⟩
   ·exact List.length_eq_zero_iff.1 ((Nat.mul_eq_zero.1 e).resolve_right (by omega))
   grind
  subst this;exact l _ k (Hp.le_refl k) ⟨Hp.le_refl k,λ_=>False,⟨[],⟨rfl,Nat.le_refl _,.inl ⟨rfl,rfl,rfl⟩⟩,λb=>by simp⟩,λ_ h=>h.elim⟩
 | some a=>
  rw [jO];refine lT (xs:=([]:List α)) (enc:=enc) (sz:=sz) rfl j λb H E n I A=> ?_;refine xV A (Rw.mono n r) j u z (by simpa using hb) λf d i o m=> ?_;have g:=m.le (h0:=k) n λc F=>by grind
  exact l f d g.1 ⟨g.1,(· ∈i),⟨i,by simpa using o,λ_=>Iff.rfl⟩,g.2⟩
end
abbrev wj (l:Sl) (a:List Int):eD:=kC ft l a
abbrev R3 (l:Sl) (a:List cd):eD:=kC (bh.ok (sh:=aC) (sz:=2) (dN.ok λx p=>vT x=p)) l a
section
variable {h0 k:Hp} {q:Addr} {room:Int} {l:aX}
theorem PG {Q:bF->Hp->Prop} (o:Has h0 (ee q room l) k) (hv:l.values.length<=100) (D:l.waiters.length<=100) (z:∀r g,Has h0 ((ee q room l).star (kC jI r l)) g->Q r g):zqi prog (some q) Q k:=by
 unfold zqi;obtain ⟨x,u,c,d,o⟩:=o.cf;refine aJ (o.left.ld (shf:=aw) x.values rfl ?_);refine aJ (o.left.ld (shf:=aw) x.waiters rfl ?_);refine aJ (o.left.ld (shf:=af .i64) x.taken rfl ?_);refine aJ (o.left.ld (shf:=af .i64) x.dropped rfl ?_);refine zid ?_;unfold UA;refine Aj (cD.cH 200 yE rfl) (o.right.left.mO (λ_=>rfl)) (by decide) (λ_=>rfl) (λ_=>rfl) rfl ⟨by omega,by omega⟩ λj h w A=> ?_;have a:=o.grow w;refine ⟨⟨a.left.fG (n:=1) rfl,a.left.fG (n:=1) rfl,a.left.fG (n:=1) rfl,trivial⟩,?_⟩;refine zds ?_;unfold Tq;refine Aj (cD.cH 201 vO rfl) (a.right.right.mO (λ_=>rfl)) (by decide) (λ_=>rfl) (λ_=>rfl) rfl ⟨by omega,by omega⟩ λm b y C=> ?_;have i:=a.grow y;refine ⟨⟨i.left.fG (n:=1) rfl,i.left.fG (n:=1) rfl,trivial⟩,?_⟩;refine z _ b ?_;have s:Has k (wj j l.values) h:=A.kq (f:=λx=>x) (λ_=>rfl) λ_=>rfl;have t:Has h (R3 m l.waiters) b:=C.kq (f:=qf) (λ_=>rfl) λ_=>rfl;have both:=s.beside t;have lane:Has k (kC jI (⟨j,m,x.taken,x.dropped⟩:bF) l) b:=by obtain ⟨B,p,r,e,nd,v⟩:=both.two;exact Has.uR both.le ⟨B,p,rfl,r,e,c,d⟩ nd v
 exact (Has.kT o u c d).beside lane
end
section
variable {h0 k:Hp} {q:Addr} {room:Int} {l:aX}
theorem Yi {s:Sl} {b:List cd} {Q:Bool->Hp->Prop} (r:Rw k 2 eW s b) (N:b.length<=1000000) (B:(b.map (·.proc)).Nodup) (R:∀c,k<=c->Q false c):DV prog s Q k:=by
 unfold DV;have O:=r.1;intro m u;have J:k<=k.set m (.map #[] 0):=mY u;refine aB.intro (λi c=>k<=c/\0<=i/\i<=(b.length:Int)/\∃f:List (Int×Int),ia c m .i64 (af .i64).enc f/\(∀a,iY a f≠none->a∈(b.take i.toNat).map (·.proc))) (λi _=>(b.length-i).toNat)
  ⟨J,by omega,by omega,[],⟨[],0,nz,rfl⟩,λa h=>absurd rfl h⟩ ?_
 rintro i c ⟨p,i0,i1,f,A,t⟩;by_cases F:i<(b.length:Int)
 ·rw [if_pos (iW)];have rs:Rs c aC 2 s (b.map qf):=(r.mono p).map (enc:=λx=>bA (aC.enc x));refine rs.get (λ_=>rfl) (by omega) i0 (by rw [List.length_map];exact F) λ(x:bN) d=> ?_;rw [List.getElem?_map] at d;cases g:b[i.toNat]? with
  | none=>rw [g] at d;cases d
  | some w=>
   rw [g] at d;have d:x=qf w:=by simpa using d.symm
   subst d;have L:iY w.proc f=none:=by
    cases e:iY w.proc f with
    | none=>rfl
    | some v=>
     have D:=t w.proc (by rw [e];simp);obtain ⟨E,G⟩:=List.getElem?_eq_some_iff.1 g;have H:(b.map (·.proc))=(b.take i.toNat).map (·.proc)++(w.proc::(b.drop (i.toNat+1)).map (·.proc)):=by
      have:b=b.take i.toNat++w::b.drop (i.toNat+1):=by rw [<-G,<-List.drop_eq_getElem_cons E,List.take_append_drop]
      conv=>lhs;rw [this]
      simp
     rw [H] at B;exact absurd rfl ((List.nodup_append.1 B).2.2 _ D _ (List.mem_cons_self ..))
   refine BC (sh:=af .i64) (z:=(0:Int)) A rfl (λ_=> ?_) λv hv=>by rw [show (qf w).cU=w.proc from rfl,L] at hv;cases hv
   rw [aV];refine Pw (ev:=(af .i64).enc) (v:=(1:Int)) A λo P y=> ?_;have K:k m=none:=u;have I:k<=c.set m o:=KI p K;have n:iY w.proc (lP w.proc (1:Int) f)=some 1:=by rw [BB,if_pos rfl]
   refine BC (sh:=af .i64) (z:=(0:Int)) y rfl (λhv=>by rw [show (qf w).cU=w.proc from rfl,n] at hv;cases hv) λv hv=> ?_;have M:v=1:=by rw [show (qf w).cU=w.proc from rfl,n] at hv;exact (Option.some.inj hv).symm
   subst M;dsimp only;rw [if_neg (by decide),aV];refine ⟨⟨I,by omega,by omega,_,y,λa j=> ?_⟩,by omega⟩;have C:(i+1).toNat=i.toNat+1:=by omega
   rw [C,List.take_add_one,g];rw [BB] at j;by_cases e:a=(qf w).cU
   ·rw [e];simp [qf]
   ·rw [if_neg e] at j;have:=t a j;simp only [List.map_append,List.mem_append];exact .inl this
 grind
theorem aaH {Q:Option Addr->Int->Hp->Prop} (d:1<=room/\room<=64) (c:∀p a,k<=a->Has k (dZ Fi p ⟨room,⟨none,0,0⟩,⟨none,0,0⟩,0,0⟩) a->Q (some p) 0 a):ET prog room Q k:=by unfold ET;refine zse ?_;unfold Rz;refine aE ?_;rw [show (decide (room>=1)&&decide (room<=64))=true by simp;omega];dsimp only;rw [if_neg (by decide)];exact vk (sh:=Fi) ⟨room,⟨none,0,0⟩,⟨none,0,0⟩,0,0⟩ rfl λp a b o=>c p a b o
structure RZ (room:Int) (l:aX):Prop where
 len:(l.values.length:Int)<=room
 full:l.waiters≠ []->(l.values.length:Int)=room
 taken:ji l.taken
 dropped:ji l.dropped
 once:(l.waiters.map (·.proc)).Nodup
 mI:l.waiters.length<=100
theorem La {n:Int} {Q:Bool->Hp->Prop} (h:ji n) (a:Q true k):Rz prog n 0 65535 Q k:=by
 unfold Rz;refine aE ?_;have:(decide (n>=0)&&decide (n<=65535))=true:=by unfold ji at h;simp;omega
 grind
theorem aaJ {x:bF} {Q:Option Addr->Int->Hp->Prop} (g:1<=room/\room<=64) (a:jA k x l) (v:RZ room l) (C:∀p f,k<=f->Has k (ee p room l) f->Q (some p) 0 f):EP prog room x Q k:=by
 unfold EP;refine abm (aaH g λp r h s=> ?_);have hv:=a.values.1;obtain ⟨u,n,D⟩:=a.waiters;have m:u.length=l.waiters.length:=by grind
 have R:=n.1;have P:=v.len;have N:=v.mI;rw [if_neg (by decide)];have w:(decide (((x.bJ.len:Nat):Int)>(0:Int))&&decide (((x.cF.len:Nat):Int)<room))=false:=by
  by_cases e:l.waiters=[]
  ·grind
  ·have:=v.full e;grind
 refine aE (aE ?_);rw [w,Bool.or_false,show decide (((x.cF.len:Nat):Int)>room)=false by simp;omega];refine ⟨λ_=>zse (La (by rw [a.taken];exact v.taken) ?_),λe=>by cases e⟩;refine aE ⟨λ_=>zse (La (by rw [a.dropped];exact v.dropped) ?_),λe=>by cases e⟩;refine aE ⟨λ_=>Yh ?_,λe=>by cases e⟩;have j:Rw r 2 eW x.bJ l.waiters:=by have A:Rw r 2 (λx=>bA (aC.enc x)) x.bJ u:=Rw.mono h n;obtain ⟨y,z⟩:=A;refine ⟨by rw [y,m],?_⟩;rw [<-m,<-D,List.flatMap_map];exact z
 refine Yi j (by omega) v.once λS c=> ?_;refine aE ?_;rw [if_neg (by decide)];refine zid ?_;unfold UA;have hb:=g.2;refine Pn (cD.cH 200 yE rfl) (xs:=l.values) (enc:=fX) (Rw.mono (Hp.le_trans h c) a.values) (by decide) (λ_=>rfl) (λ_=>rfl) rfl ⟨by omega,by omega⟩ λb T i G=> ?_;refine ⟨⟨trivial,trivial⟩,?_⟩;refine zds ?_;unfold Tq;refine Pn (cD.cH 201 vO rfl) (xs:=l.waiters) (Rw.mono (Hp.le_trans c i) j) (by decide) (λ_=>rfl) (λ_=>rfl) rfl ⟨by omega,by omega⟩ λd E B H=> ?_;have o:=(s.grow (Hp.le_trans c (Hp.le_trans i B)));have o:Has k ((dZ Fi p ⟨room,⟨none,0,0⟩,⟨none,0,0⟩,0,0⟩).star ((ff 1 fX b l.values).star (ff 2 eW d l.waiters))) E:=(s.grow c).grow (Hp.le_refl _) |>.beside (G.beside H)
 obtain ⟨O,_,I,put⟩:=o.f1;refine aJ (I.st (⟨room,b,⟨none,0,0⟩,0,0⟩:dO) (show (2:Nat)<=5 by decide) rfl λU J=> ?_);refine aJ (J.st (⟨room,b,d,0,0⟩:dO) (show (3:Nat)<=5 by decide) rfl λV K=> ?_);refine aJ (K.st (⟨room,b,d,x.jc,0⟩:dO) (show (4:Nat)<=5 by decide) rfl λW L=> ?_);refine ⟨⟨trivial,trivial⟩,?_⟩;refine aJ (L.st (⟨room,b,d,x.jc,x.fL⟩:dO) (show (5:Nat)<=5 by decide) rfl λF M=> ?_);have t:=put _ _ M;exact C p F t.le (Has.kT t rfl a.taken a.dropped)
end
abbrev eP :Addr->List Value:=λa=> [.pointer (some a)]
def a0 :Addr:=⟨0,0,none⟩
def nm :aX:=⟨[],[],0,0⟩
def zO (b:List Addr) (room:Int) (a:List aX):eD:=eD.first (λi=>ee (b.getD i a0) room (a.getD i nm)) a.length
def jb (p:Addr) (x:dA) (a:List Addr) (room:Int) (b:List aX):eD:=(dZ RG p x).star ((ff 1 eP x.ak a).star (zO a room b))
def eJ (p:Addr) (room:Int) (a:List aX) (ai:Int):eD:=
 .some_ λx:dA=>.some_ λb:List Addr=>(jb p x b room a).star (.fact (x.ai=ai/\b.length=a.length))
section
variable {h0 k:Hp} {p:Addr} {room ai:Int} {c:List aX} {x:dA} {g:List Addr}
theorem rM {b:Type} {l:List b} {i:Nat} {a d:b} (h:l[i]? =some a):l.getD i d=a:=by grind
theorem Has.pX (o:Has h0 (eJ p room c ai) k):∃x g,x.ai=ai/\g.length=c.length/\Has h0 (jb p x g room c) k:=by obtain ⟨x,o⟩:=Has.ex.1 o;obtain ⟨g,o⟩:=Has.ex.1 o;obtain ⟨o,a,b⟩:=o.kS;grind
theorem Has.lU (o:Has h0 (jb p x g room c) k) (a:x.ai=ai) (b:g.length=c.length):Has h0 (eJ p room c ai) k:=Has.ex.2 ⟨x,Has.ex.2 ⟨g,o.fV ⟨a,b⟩⟩⟩
theorem Has.pK {i:Nat} {l:aX} (o:Has h0 (jb p x g room c) k) (f:c[i]? =some l):∃a,h0<=a/\Has a (ee (g.getD i a0) room l) k/\∀d b,Has a (ee (g.getD i a0) room d) b->Has h0 (jb p x g room (c.set i d)) b:=by
 obtain ⟨a,a1,s,put⟩:=o.f3;have n:i<c.length:=(List.getElem?_eq_some_iff.1 f).1;obtain ⟨m,a2,h,_,t⟩:=s.one n;rw [rM f] at h;refine ⟨m,Hp.le_trans a1 a2,h,λd b r=>put _ _ ?_⟩;have:=t _ _ r;unfold zO;rw [List.length_set];refine cast (congrArg (λA=>Has a A b) (vR λj q=> ?_)) this;by_cases e:j=i
 ·subst e;rw [mz,rM (List.getElem?_set_self q)]
 ·rw [mn e];grind
theorem Has.ptr (o:Has h0 (jb p x g room c) k) (a:g.length=c.length) {i:Nat} (b:i<c.length) {K:Option Addr->Prop} (d:K (some (g.getD i a0))):bI x.ak.base x.ak.len (i:Int)/\aN none al k (sat x.ak.base 1 (i:Int)) K:=by have rs:Rs k al 1 x.ak (g.map some):=(o.right.left.mO (λ_=>rfl)).map (f:=some) (enc:=λx=>bA (al.enc x));refine rs.get (λ_=>rfl) (by omega) (by omega) (by rw [List.length_map];omega) λ(y:Option Addr) e=> ?_;grind
theorem Gi {n:Int} {Q:Bool->Hp->Prop} (o:Has h0 (eJ p room c ai) k) (d:0<=n/\n<c.length) (e:Q true k):zqk prog (some p) n Q k:=by obtain ⟨x,g,a,b,o⟩:=o.pX;unfold zqk;have f:=o.right.left.jR;refine aJ ((Has.left o).pM (shf:=aw) x.ak rfl ?_);refine aE ?_;grind
theorem Has.yg {i:Nat} {l:aX} (o:Has h0 (eJ p room c ai) k) (h:c[i]? =some l):∃(x:dA) (a:Addr) (b:Hp),(∀ {K:Sl->Prop},K x.ak->aN none aw k (p.add 0) K)/\(∀ {K:Option Addr->Prop},K (some a)->bI x.ak.base x.ak.len (i:Int)/\aN none al k (sat x.ak.base 1 (i:Int)) K)/\h0<=b/\Has b (ee a room l) k/\
  ∀e d,Has b (ee a room e) d->Has h0 (eJ p room (c.set i e) ai) d:=by
 obtain ⟨x,g,j,m,o⟩:=o.pX;obtain ⟨b,a1,q,put⟩:=o.pK h;exact ⟨x,_,b,λf=>(Has.left o).ld (shf:=aw) x.ak rfl f,λf=>o.ptr m (List.getElem?_eq_some_iff.1 h).1 f,a1,q,λe d n=>(put e d n).lU j (by grind)⟩
theorem aaK {i:Nat} {l:aX} {v:Int} {Q:Int->Hp->Prop} (o:Has h0 (eJ p room c ai) k) (d:c[i]? =some l) (j:room<=64) (e:room<=(l.values.length:Int)->Q 19 k)
  (h:∀b,¬room<=(l.values.length:Int)->Has h0 (eJ p room (c.set i (wA v l)) ai) b->Q 0 b):Ro prog (some p) (i:Int) v Q k:=by
 unfold Ro;refine YI (Gi o ⟨by omega,by have:=(List.getElem?_eq_some_iff.1 d).1;omega⟩ ?_);obtain ⟨x,a,r,ld,m,_,q,put⟩:=o.yg d;rw [if_neg (by decide)];refine aJ (ld (m ?_));exact Ve (aaA q j e λb f n=>h b f (put _ _ n))
theorem Yl {i:Nat} {l:aX} {Q:Hp->Prop} (o:Has h0 (eJ p room c ai) k) (d:c[i]? =some l) (e:ji l.dropped) (f:∀b,Has h0 (eJ p room (c.set i (lS l)) ai) b->Q b):Rj prog (some p) (i:Int) Q k:=by unfold Rj;refine YI (Gi o ⟨by omega,by have:=(List.getElem?_eq_some_iff.1 d).1;omega⟩ ?_);obtain ⟨x,a,n,ld,h,_,m,put⟩:=o.yg d;rw [if_pos rfl];refine aJ (ld (h ?_));exact UI (XV m e λb j=>f b (put _ _ j))
theorem BH {b:Type} {f:b->b} {a:List b} {t:Nat} {y:b} (h:a[t]? =some y):((a.take t).map f++a.drop t).set t (f y)=(a.take (t+1)).map f++a.drop (t+1):=by
 obtain ⟨d,i⟩:=List.getElem?_eq_some_iff.1 h;have j:((a.take t).map f).length=t:=by rw [List.length_map,List.length_take];omega
 have e:a.drop t=y::a.drop (t+1):=by rw [List.drop_eq_getElem_cons d,i]
 rw [e,List.set_append_right _ _ (by omega),j,Nat.sub_self,List.set_cons_zero,List.take_add_one,h];simp
theorem Gj {a:Type} {f:a->a} {b:List a} {t:Nat} {y:a} (h:b[t]? =some y):((b.take t).map f++b.drop t)[t]? =some y:=by grind
theorem VM {w:Int} {Q:Bool->Hp->Prop} (o:Has h0 (eJ p room c ai) k) (v:c.length<=1000000/\∀l∈c,l.waiters.length<=100) (u:∀b a,Has h0 (eJ p room (c.map (uk w)) ai) a->Q b a):zql prog (some p) w Q k:=by
 obtain ⟨x,g,m,D,o⟩:=o.pX;unfold zql;have F:=o.right.left.jR;refine aJ ((Has.left o).ld (shf:=aw) x.ak rfl ?_);refine bL.intro (λ(_:Bool) (i:Int) a=>0<=i/\i<=(c.length:Int)/\Has h0 (jb p x g room ((c.take i.toNat).map (uk w)++c.drop i.toNat)) a) (λ_ i _=>(c.length-i).toNat) ⟨by omega,by omega,by simpa using o⟩ ?_;rintro b i a ⟨i0,i1,o⟩;by_cases s:i<(c.length:Int)
 ·rw [if_pos (iW)];have t:i.toNat<c.length:=by omega
  have d:=List.getElem?_eq_getElem t;generalize c[i.toNat]=l at d;have n:g.length=((c.take i.toNat).map (uk w)++c.drop i.toNat).length:=by grind
  obtain ⟨E,_,B,put⟩:=o.pK (Gj d);have h:=o.ptr n (i:=i.toNat) (by omega) (K:=λy=>y=some (g.getD i.toNat a0)) rfl;have f:((i.toNat:Nat):Int)=i:=by omega
  rw [f] at h;refine ⟨λr q=>0<=i/\i<(c.length:Int)/\Has h0 (jb p x g room ((c.take (i.toNat+1)).map (uk w)++c.drop (i.toNat+1))) q,⟨h.1,?_⟩,?_⟩
  ·obtain ⟨y,z,rfl⟩:=h.2;refine ⟨_,z,?_⟩;refine T1 (Vz B (v.2 l (List.mem_of_getElem? d)) λj A C=> ?_);have o:=put _ _ C;rw [BH d] at o;grind
  ·rintro j A ⟨_,_,o⟩;rw [aV];grind
 ·rw [if_neg (λe=>s (by grind))];refine u b a ?_;have f:i.toNat=c.length:=by omega
  rw [f,List.take_length,List.drop_length,List.append_nil] at o;exact o.lU m (by grind)
end
section
variable {h0 k:Hp} {p:Addr} {room ai:Int} {c:List aX} {x:dA} {d:List Addr}
theorem uY {e:Type}:∀ {l:List e} {i:Nat} {a:e},l[i]? =some a->l.set i a=l
 | [],_,_,h=>by cases h
 | b::l,0,a,h=>by cases h;rfl
 | b::l,i+1,a,h=>by rw [List.set_cons_succ,uY (by simpa using h)]
theorem Yn {w:Int} {Q:Int->Hp->Prop} (o:Has h0 (eJ p room c ai) k) (h:c.length<=1000000/\∀l∈c,l.waiters.length<=100/\l.values.length<=100) (G:∀l∈c,∀z∈l.waiters,z.proc≠w) (I:∀a,Has h0 (eJ p room c ai) a->Q (-1) a):zqs prog (some p) w Q k:=by
 obtain ⟨x,d,A,n,o⟩:=o.pX;unfold zqs;have U:=o.right.left.jR;refine aJ ((Has.left o).ld (shf:=aw) x.ak rfl ?_);refine aB.intro (λ(i:Int) a=>0<=i/\i<=(c.length:Int)/\Has h0 (jb p x d room c) a) (λi _=>(c.length-i).toNat) ⟨by omega,by omega,o⟩ ?_;rintro i a ⟨i0,i1,o⟩;by_cases E:i<(c.length:Int)
 ·rw [if_pos (iW)];have s:i.toNat<c.length:=by omega
  have b:=List.getElem?_eq_getElem s;generalize c[i.toNat]=l at b;have f:=List.mem_of_getElem? b;obtain ⟨R,_,O,put⟩:=o.pK b;have C:((i.toNat:Nat):Int)=i:=by omega
  have t:=o.ptr n s (K:=λy=>y=some (d.getD i.toNat a0)) rfl;rw [C] at t;obtain ⟨D,y,m,rfl⟩:=t;refine ⟨D,_,m,?_⟩;refine zsm (PG O (h.2 l f).2 (h.2 l f).1 λr N v=> ?_);have J:c.set i.toNat l=c:=uY b;have P:=put _ _ v.left;rw [J] at P;obtain ⟨B,F,_⟩:=v.right.as_;obtain ⟨g,u,L⟩:=(pz.rd F).waiters;have V:g.length=l.waiters.length:=by grind
  have T:=u.1;have S:=(h.2 l f).1;refine aB.intro (λ(j:Int) a=>a=N/\0<=j/\j<=(g.length:Int)) (λj _=>(g.length-j).toNat) ⟨rfl,by omega,by omega⟩ ?_;rintro j _ ⟨rfl,M,W⟩;by_cases q:j<(g.length:Int)
  ·rw [if_pos (iW)];refine Rs.get (sh:=aC) u (λ_=>rfl) (by omega) M q λ(y:bN) m=> ?_;have H:y.cU≠w:=by
    have:vT y∈l.waiters:=by rw [<-L];exact List.mem_map_of_mem (List.mem_of_getElem? m)
    exact G l f _ this
   rw [if_neg (show ¬(y.cU==w)=true by simp [H]),aV];grind
  ·rw [if_neg (λe=>q (by have:=of_decide_eq_true e;omega)),aV];grind
 ·rw [if_neg (λe=>E (by grind))];exact I a (o.lU A n)
theorem Yp {i:Nat} {l:aX} {w v:Int} {Q:Int->Hp->Prop} (o:Has h0 (eJ p room c ai) k) (h:c.length<=1000000/\∀l∈c,l.waiters.length<=100/\l.values.length<=100) (g:∀l∈c,∀z∈l.waiters,z.proc≠w) (e:c[i]? =some l) (j:room<=(l.values.length:Int))
  (m:∀b,Has h0 (eJ p room (c.set i (iS w v l)) ai) b->Q 0 b):zrz prog (some p) (i:Int) w v Q k:=by
 unfold zrz;refine YI (Gi o ⟨by omega,by grind⟩ ?_);rw [if_neg (by decide)];refine T5 (Yn o h g λt o=> ?_);rw [if_neg (by decide)];obtain ⟨x,a,s,ld,n,_,r,put⟩:=o.yg e;refine aJ (ld (n ?_));have f:=List.mem_of_getElem? e;exact UM (XZ r (h.2 l f).1 j (g l f) λb q=>m b (put _ _ q))
theorem aaL {Q:Sl->Hp->Prop} (o:Has h0 (eJ p room c ai) k) (H:c.length<=1000/\∀l∈c,l.waiters.length<=100) (G:∀s f,Has h0 ((eJ p room (c.map wq) ai).star (ff 2 eW s (c.flatMap (·.waiters)))) f->Q s f):ztx prog (some p) Q k:=by
 obtain ⟨x,d,w,W,o⟩:=o.pX;unfold ztx;have hs:=o.right.left.jR;refine aJ ((Has.left o).ld (shf:=aw) x.ak rfl ?_);have nil:Has k (ff 2 eW (⟨none,0,0⟩:Sl) ([]:List cd)) k:=Has.mJ (Hp.le_refl _);have E:∀t,((c.take t).flatMap (·.waiters)).length<=t*100:=by
  have:∀m:List aX,(∀l∈m,l.waiters.length<=100)->(m.flatMap (·.waiters)).length<=m.length*100:=λm=>by
   induction m with
   | nil=>intro _;simp
   | cons a m J=>intro h;have:=J λl b=>h l (List.mem_cons_of_mem _ b);have:=h a (List.mem_cons_self ..);simp only [List.flatMap_cons,List.length_append,List.length_cons];omega
  grind
 refine bL.intro (λ(s:Sl) (i:Int) f=>0<=i/\i<=(c.length:Int)/\Has h0 ((jb p x d room ((c.take i.toNat).map wq++c.drop i.toNat)).star (ff 2 eW s ((c.take i.toNat).flatMap (·.waiters)))) f) (λ_ i _=>(c.length-i).toNat)
  ⟨by omega,by omega,by simpa using o.beside nil⟩ ?_
 rintro s i f ⟨i0,i1,o⟩;by_cases D:i<(c.length:Int)
 ·rw [if_pos (iW)];have F:i.toNat<c.length:=by omega
  have b:=List.getElem?_eq_getElem F;generalize c[i.toNat]=l at b;have z:d.length=((c.take i.toNat).map wq++c.drop i.toNat).length:=by grind
  obtain ⟨C,_,g,_,n⟩:=o.fst;obtain ⟨X,_,N,put⟩:=g.pK (Gj b);have q:=g.ptr z (i:=i.toNat) (by omega) (K:=λy=>y=some (d.getD i.toNat a0)) rfl;have j:((i.toNat:Nat):Int)=i:=by omega
  rw [j] at q;obtain ⟨B,y,I,rfl⟩:=q;refine ⟨B,_,I,?_⟩;refine Vj (aaB N λr L O=> ?_);have u:Has h0 (((jb p x d room ((c.take (i.toNat+1)).map wq++c.drop (i.toNat+1))).star (ff 2 eW s ((c.take i.toNat).flatMap (·.waiters)))).star (ff 2 eW r l.waiters)) L:=
   O.carry λf M=>by have op:=put _ _ M;rw [BH b] at op;exact n _ _ op
  have a8:l.waiters.length<=100:=H.2 l (List.mem_of_getElem? b);have Y:=E i.toNat;have v:(⟨s.base,s.len,s.cap⟩:Sl)=s:=rfl;rw [v];obtain ⟨Z,_,P,_,U⟩:=u.fst;obtain ⟨h7,_,R,_,V⟩:=P.snd;refine R.app (u.right.mO (λ_=>rfl)) (λ_=>rfl) (λ_=>rfl) rfl ⟨by omega,by omega⟩ λs' k3 S=> ?_;have T:=U _ _ (V _ _ S);rw [aV];refine ⟨⟨by omega,by omega,?_⟩,by omega⟩;rw [show (i+1).toNat=i.toNat+1 by omega];have A:(c.take (i.toNat+1)).flatMap (·.waiters)=(c.take i.toNat).flatMap (·.waiters)++l.waiters:=by rw [List.take_add_one,b];simp
  rw [A];exact T.left
 ·rw [if_neg (λe=>D (by grind))];refine G _ f ?_;have j:i.toNat=c.length:=by omega
  rw [j,List.take_length,List.drop_length,List.append_nil] at o;obtain ⟨C,_,g,_,n⟩:=o.fst;exact n _ _ (g.lU w (by grind))
end
abbrev xL (l:Sl) (a:List aX):eD:=kC (bh.ok (sh:=bd) (sz:=4) jI) l a
section
variable {h0 k:Hp} {p:Addr} {room ai:Int} {b:List aX} {x:dA} {c:List Addr}
theorem VO {Q:Sl->Int->Hp->Prop} (o:Has h0 (eJ p room b ai) k) (B:b.length<=1000/\∀l∈b,l.waiters.length<=100/\l.values.length<=100) (A:∀s a,Has h0 ((eJ p room b ai).star (xL s b)) a->Q s ai a):zqh prog (some p) Q k:=by
 obtain ⟨x,c,j,m,o⟩:=o.pX;unfold zqh;have P:=o.right.left.jR;refine aJ ((Has.left o).ld (shf:=aw) x.ak rfl ?_);have nil:Has k (xL (⟨none,0,0⟩:Sl) ([]:List aX)) k:=Has.pP (okQ:=jI) (Hp.le_refl _);refine bL.intro (λ(s:Sl) (i:Int) a=>0<=i/\i<=(b.length:Int)/\Has h0 ((jb p x c room b).star (xL s (b.take i.toNat))) a) (λ_ i _=>(b.length-i).toNat) ⟨by omega,by omega,by simpa using o.beside nil⟩ ?_;rintro s i a ⟨i0,i1,o⟩;by_cases z:i<(b.length:Int)
 ·rw [if_pos (iW)];have n:i.toNat<b.length:=by omega
  have d:=List.getElem?_eq_getElem n;generalize b[i.toNat]=l at d;have t:=B.2 l (List.mem_of_getElem? d);obtain ⟨w,_,f,_,h⟩:=o.fst;obtain ⟨N,_,F,put⟩:=f.pK d;have q:=f.ptr m n (K:=λy=>y=some (c.getD i.toNat a0)) rfl;have g:((i.toNat:Nat):Int)=i:=by omega
  rw [g] at q;obtain ⟨v,y,C,rfl⟩:=q;refine ⟨v,_,C,?_⟩;refine zsm (PG F t.2 t.1 λr D G=> ?_);have J:Has h0 (((jb p x c room b).star (xL s (b.take i.toNat))).star (kC jI r l)) D:=G.carry λa E=>by have op:=put _ _ E;rw [uY d] at op;exact h _ _ op
  obtain ⟨O,_,H,_,L⟩:=J.assoc.snd;have u:(⟨s.base,s.len,s.cap⟩:Sl)=s:=rfl;rw [u];refine H.row rfl (λ_=>rfl) (λ_=>rfl) rfl ⟨by rw [List.length_take];omega,by rw [List.length_take];omega⟩ λT R I=> ?_;have S:=L _ _ I;rw [aV];refine ⟨⟨by omega,by omega,?_⟩,by omega⟩;have M:b.take (i.toNat+1)=b.take i.toNat++ [l]:=by rw [List.take_add_one,d];rfl
  grind
 ·rw [if_neg (λe=>z (by grind))];refine aJ ((Has.left (Has.left o)).ld (shf:=af .i64) x.ai rfl ?_);rw [j];refine A _ a ?_;have g:i.toNat=b.length:=by omega
  rw [g,List.take_length] at o;obtain ⟨w,_,f,_,h⟩:=o.fst;exact h _ _ (f.lU j m)
theorem TL {q:Addr} {l:aX} (e:c.length=b.length) (o:Has h0 ((zO c room b).star (ee q room l)) k):Has h0 (zO (c++ [q]) room (b++ [l])) k:=by
 unfold zO;rw [List.length_append];show Has h0 ((eD.first (λi=>ee ((c++ [q]).getD i a0) room ((b++ [l]).getD i nm)) b.length).star (ee ((c++ [q]).getD b.length a0) room ((b++ [l]).getD b.length nm))) k;have a:(c++ [q]).getD b.length a0=q:=by simp [List.getD,<-e]
 have d:(b++ [l]).getD b.length nm=l:=by simp [List.getD]
 rw [a,d];refine cast (congrArg (λA=>Has h0 (A.star (ee q room l)) k) (vR λi f=> ?_)) o;grind
theorem aaM {s:Sl} {v:List bF} {Q:Option Addr->Int->Hp->Prop} (z:1<=room/\room<=64) (W:1<=b.length/\b.length<=9) (S:0<=ai/\ai<b.length) (r:Rs k bd 4 s v) (a:dR (jA k) v b) (hv:∀l∈b,RZ room l)
  (E:∀p d,k<=d->Has k (eJ p room b ai) d->Q (some p) 0 d):EJ prog room s ai Q k:=by
 unfold EJ;have V:=r.1;have X:=a.len;refine aE (aE (aE ?_));rw [show (decide ((s.len:Int)<1) || decide ((s.len:Int)>9) || decide (room<1) || decide (room>64))=false by simp;omega,if_neg (by decide)];refine aE ?_;rw [show (decide (ai<0) || decide (ai>=(s.len:Int)))=false by simp;omega,if_neg (by decide)];refine vk (sh:=RG) ⟨⟨none,0,0⟩,ai⟩ rfl λp f T G=> ?_;have CU:Has k (jb p ⟨⟨none,0,0⟩,ai⟩ [] room []) f:=G.beside ((Has.mJ (Hp.le_refl f)).beside (Has.fact trivial (Hp.le_refl f)));refine aB.intro (λ(i:Int) d=>0<=i/\i<=(b.length:Int)/\∃(sl:Sl) (c:List Addr),c.length=i.toNat/\Has k (jb p ⟨sl,ai⟩ c room (b.take i.toNat)) d) (λi _=>(b.length-i).toNat) ⟨by omega,by omega,_,[],rfl,CU⟩ ?_;rintro i d ⟨i0,i1,sl,c,hp,o⟩;by_cases A:i<(b.length:Int)
 ·rw [if_pos (iW)];refine Rs.get (sh:=bd) (Rw.mono o.le r) (λ_=>rfl) (by omega) i0 (by omega) λ(y:bF) F=> ?_;obtain ⟨l,t,D⟩:=a.get F;refine abj (aaJ z (D.mono o.le) (hv l (List.mem_of_getElem? t)) λq Y U H=> ?_);rw [if_neg (by decide)];have o:=(o.beside H);refine aJ ((Has.left (Has.left o)).ld (shf:=aw) sl rfl ?_);obtain ⟨B,_,g,_,j⟩:=o.fst;obtain ⟨C,_,h,m⟩:=g.f2;refine h.push (e:=q) rfl (λ_=>rfl) (λ_=>rfl) rfl ⟨by omega,by omega⟩ λu Z I=> ?_;have o:=j _ _ (m _ _ I);obtain ⟨B,_,g,_,j⟩:=o.fst;obtain ⟨C,_,h,m⟩:=g.f1;refine aJ (h.st (⟨u,ai⟩:dA) (show (1:Nat)<=2 by decide) rfl λk4 J=> ?_);have o:=j _ _ (m _ _ J);rw [aV];have w:b.take (i.toNat+1)=b.take i.toNat++ [l]:=by rw [List.take_add_one,t];rfl
  refine ⟨⟨by omega,by omega,u,c++ [q],by simp;omega,?_⟩,by omega⟩;rw [show (i+1).toNat=i.toNat+1 by omega,w];have M:=o.assoc;obtain ⟨P,_,K,_,N⟩:=M.snd;obtain ⟨R,_,L,_,O⟩:=K.assoc.snd;exact N _ _ (O _ _ (TL (by grind) L))
 ·rw [if_neg (λe=>A (by grind))];have n:i.toNat=b.length:=by omega
  rw [n,List.take_length] at o;rw [n] at hp;exact E p d o.le (o.lU rfl hp)
end
abbrev eL :aU->List Value:=λx=>bA (fO.enc x)
def vI :aU:=⟨0,⟨none,0,0⟩⟩
def wh (b:List aU) (a:List (List Int)):eD:=eD.first (λi=>ff 1 fX (b.getD i vI).queue (a.getD i [])) a.length
def dM (p:Addr) (sl:Sl) (a:List aU) (b:List (List Int)):eD:=(dZ Hw p ⟨sl⟩).star ((ff 2 eL sl a).star (wh a b))
def oH (p:Addr) (os:List Int) (qs:List (List Int)):eD:=
 .some_ λsl:Sl=>.some_ λa:List aU=>(dM p sl a qs).star (.fact (a.map (·.owner)=os/\a.length=qs.length))
section
variable {h0 k:Hp} {p:Addr} {os:List Int} {qs:List (List Int)} {sl:Sl} {xs:List aU}
theorem Has.nM (o:Has h0 (oH p os qs) k):∃sl xs,xs.map (·.owner)=os/\xs.length=qs.length/\Has h0 (dM p sl xs qs) k:=by obtain ⟨sl,o⟩:=Has.ex.1 o;obtain ⟨xs,o⟩:=Has.ex.1 o;obtain ⟨o,a,b⟩:=o.kS;grind
theorem Has.jW (o:Has h0 (dM p sl xs qs) k) (a:xs.map (·.owner)=os) (b:xs.length=qs.length):Has h0 (oH p os qs) k:=Has.ex.2 ⟨sl,Has.ex.2 ⟨xs,o.fV ⟨a,b⟩⟩⟩
theorem Has.uT {i:Nat} {x:aU} {q:List Int} (o:Has h0 (wh xs qs) k) (f:xs[i]? =some x) (d:qs[i]? =some q):∃h1,h0<=h1/\Has h1 (ff 1 fX x.queue q) k/\∀c b a,Has h1 (ff 1 fX c.queue b) a->Has h0 (wh (xs.set i c) (qs.set i b)) a:=by
 have h:i<qs.length:=(List.getElem?_eq_some_iff.1 d).1;have l:i<xs.length:=(List.getElem?_eq_some_iff.1 f).1;obtain ⟨h1,a1,g,_,put⟩:=Has.one h o;rw [rM f,rM d] at g;refine ⟨h1,a1,g,λc b a n=> ?_⟩;have:=put _ _ n;unfold wh;rw [List.length_set];refine cast (congrArg (λA=>Has h0 A a) (vR λj m=> ?_)) this;by_cases e:j=i
 ·subst e;rw [mz,rM (List.getElem?_set_self l),rM (List.getElem?_set_self m)]
 ·rw [mn e];grind
theorem Has.xv (o:Has h0 (dM p sl xs qs) k) {K:Sl->Prop} (a:K sl):aN none aw k (p.add 0) K:=(Has.left o).ld (shf:=aw) sl rfl a
theorem Has.Du (o:Has h0 (dM p sl xs qs) k):Rs k fO 2 sl xs:=o.right.left.mO (λ_=>rfl)
theorem Has.sf {i:Nat} {x:aU} (o:Has h0 (dM p sl xs qs) k) (c:xs[i]? =some x) {K:Int->Prop} (b:K x.owner):bI sl.base sl.len (i:Int)/\aN none (af .i64) k ((sat sl.base 2 (i:Int)).add 0) K:=
 Rw.wv (sh:=af .i64) (o.right.left.mO (λ_=>rfl)) (λ_=>rfl) (by decide) (λx=>x.owner) (j:=0) (λ_=>rfl) (by omega) (by grind) λy a=>by rw [Int.toNat_natCast,c] at a;cases a;exact b
theorem Has.tF {i:Nat} {x:aU} (o:Has h0 (dM p sl xs qs) k) (c:xs[i]? =some x) {K:Sl->Prop} (b:K x.queue):bI sl.base sl.len (i:Int)/\aN none aw k ((sat sl.base 2 (i:Int)).add 1) K:=
 Rw.wv (sh:=aw) (o.right.left.mO (λ_=>rfl)) (λ_=>rfl) (by decide) (λx=>x.queue) (j:=1) (λ_=>rfl) (by omega) (by grind) λy a=>by rw [Int.toNat_natCast,c] at a;cases a;exact b
theorem VQ {i:Nat} {x x':aU} (a:xs[i]? =some x) (e:x'.queue=x.queue):wh (xs.set i x') qs=wh xs qs:=by unfold wh;grind
theorem Has.qc {i:Nat} {x:aU} {v:Int} {K:Hp->Prop} (o:Has h0 (dM p sl xs qs) k) (b:xs[i]? =some x) (c:∀a,Has h0 (dM p sl (xs.set i ⟨v,x.queue⟩) qs) a->K a):cX k ((sat sl.base 2 (i:Int)).add 0) [.int .i64 v] K:=by obtain ⟨f,_,e,put⟩:=o.f2;refine e.DG (λ_=>rfl) b (x':=⟨v,x.queue⟩) (show (1:Nat)<=2 by decide) rfl λa d=>c a ?_;have:=put _ _ d;unfold dM;rw [VQ (x':=⟨v,x.queue⟩) b rfl];exact this
theorem Has.uU {i:Nat} {x:aU} {s:Sl} {q b:List Int} {K:Hp->Prop} {h1:Hp} (g:Has h0 ((dZ Hw p ⟨sl⟩).star ((ff 2 eL sl xs).star (wh (xs.set i ⟨x.owner,s⟩) (qs.set i b)))) k) (d:xs[i]? =some x)
  (c:∀a,Has h0 (dM p sl (xs.set i ⟨x.owner,s⟩) (qs.set i b)) a->K a):cX k ((sat sl.base 2 (i:Int)).add 1) [s.v] K:=by
 obtain ⟨h,_,f,put⟩:=g.f2;refine f.DG (λ_=>rfl) d (x':=⟨x.owner,s⟩) (show (2:Nat)<=2 by decide) rfl λa e=>c a (put _ _ e)
theorem PH {n w:Int} {Q:Int->Hp->Prop} (o:Has h0 (oH p os qs) k) (c:0<=n/\n<qs.length) (f:0<=w) (d:Q 0 k):Zx prog (some p) n w Q k:=by obtain ⟨sl,xs,a,b,o⟩:=o.nM;unfold Zx;have e:=o.right.left.jR;refine aJ ((Has.left o).pM (shf:=aw) sl rfl ?_);refine aE ?_;grind
theorem PI {w:Int} {Q:Int->Bool->Hp->Prop} (o:Has h0 (dM p sl xs qs) k) (j:xs.length=qs.length) (d:qs.length<=1000/\∀q∈qs,q.length<=100) (e:∀q∈qs,w∉q) (n:Q 0 false k):Zr prog (some p) w Q k:=by
 unfold Zr;have r:=o.right.left.jR;refine aJ (o.xv ?_);refine aB.intro (λ(i:Int) g=>g=k/\0<=i/\i<=(qs.length:Int)) (λi _=>(qs.length-i).toNat) ⟨rfl,by omega,by omega⟩ ?_;rintro i _ ⟨rfl,i0,i1⟩;by_cases m:i<(qs.length:Int)
 ·rw [if_pos (iW)];refine o.Du.get (λ_=>rfl) (by omega) i0 (by omega) λ(y:aU) f=> ?_;have c:i.toNat<qs.length:=by omega
  have a:=List.getElem?_eq_getElem c;generalize qs[i.toNat]=q at a;have b:=List.mem_of_getElem? a;obtain ⟨l,_,h,_⟩:=o.right.right.uT f a;refine zjm (Nj (h.mO (λ_=>rfl)) (by have:=d.2 q b;omega) ?_);dsimp only;rw [if_neg (by simpa using e q b),aV];exact ⟨⟨rfl,by omega,by omega⟩,by omega⟩
 grind
theorem VS {n:Nat} {w a:Int} {Q:Bool->Int->Hp->Prop} {q:List Int} (o:Has h0 (oH p os qs) k) (h:qs.length<=1000/\∀q∈qs,q.length<=100) (y:∀q∈qs,w∉q) (B:0<=w) (z:os[n]? =some a) (f:qs[n]? =some q)
  (h1:(a= -1\/a=w)->∀b,Has h0 (oH p (os.set n w) qs) b->Q true 0 b) (r:¬(a= -1\/a=w)->∀b,Has h0 (oH p os (qs.set n (q++ [w]))) b->Q false 0 b):Z2 prog (some p) (n:Int) w Q k:=by
 unfold Z2;have O:n<qs.length:=(List.getElem?_eq_some_iff.1 f).1;refine zpw (PH o ⟨by omega,by omega⟩ B ?_);rw [if_neg (by decide)];obtain ⟨sl,xs,l,m,o⟩:=o.nM;refine zpu (PI o m h y ?_);rw [if_neg (by decide)];obtain ⟨x,d,C⟩:∃x,xs[n]? =some x/\x.owner=a:=by grind
 have t:=(o.sf d (K:=λ_=>True) trivial).1;refine aJ (o.xv ⟨t,?_⟩);refine ⟨λ_ b=>∃v,((a= -1/\v=w)\/(a≠ -1/\v=a))/\Has h0 (dM p sl (xs.set n ⟨v,x.queue⟩) qs) b,?_,?_⟩
 ·refine aJ (o.sf d ?_).2;rw [C];by_cases e:a= -1
  ·rw [if_pos (by simp [e])];refine aJ (o.qc d λb S=> ?_);grind
  ·rw [if_neg (by simp [e])];refine ⟨a,.inr ⟨e,rfl⟩,?_⟩;have:(⟨a,x.queue⟩:aU)=x:=by cases x;grind
   rw [this,uY d];exact o
 ·rintro _ E ⟨v,hv,o⟩;have c:(xs.set n ⟨v,x.queue⟩)[n]? =some ⟨v,x.queue⟩:=List.getElem?_set_self (List.getElem?_eq_some_iff.1 d).1;have u:(xs.set n ⟨v,x.queue⟩).length=qs.length:=by grind
  have i:(xs.set n ⟨v,x.queue⟩).map (·.owner)=os.set n v:=by rw [List.map_set,l]
  refine aJ (o.sf c ?_).2;dsimp only;by_cases e:v=w
  ·rw [if_neg (show ¬(v !=w)=true by simp [e])];refine aJ (o.sf c ?_).2;rw [show (v==w)=true by simp [e]];refine h1 (by omega) E (o.jW ?_ u);rw [i,e]
  ·rw [if_pos (show (v !=w)=true by simp [e])];refine aJ (o.tF c ?_).2;obtain ⟨s,_,G,L⟩:=o.f3;obtain ⟨N,_,H,M⟩:=G.uT c f;have P:=h.2 q (List.mem_of_getElem? f);refine H.push (e:=w) rfl (λ_=>rfl) (λ_=>rfl) rfl ⟨by omega,by omega⟩ λg R I=> ?_;have J:=L _ _ (M ⟨v,g⟩ _ _ I);refine aJ (Has.uU (x:=⟨v,x.queue⟩) (q:=q) (h1:=s) J c λF j=> ?_);have D:((xs.set n ⟨v,x.queue⟩).set n ⟨v,g⟩)[n]? =some ⟨v,g⟩:=List.getElem?_set_self (List.getElem?_eq_some_iff.1 c).1;refine aJ (j.sf D ?_).2;rw [show (v==w)=false by simp [e]];refine r (by omega) F (j.jW ?_ (by grind));rw [List.map_set,i];have A:v=a:=by omega
   subst A;rw [List.set_set,uY z]
end
def hold (w:Int):List Int->Nat->List Int
 | [],_=> []
 | o::r,i=>if o=w then (i:Int)::hold w r (i+1) else hold w r (i+1)
theorem wO {w:Int}:∀ {os:List Int} {i:Nat} {n:Int},n∈hold w os i->∃j:Nat,n=((i+j:Nat):Int)/\os[j]? =some w
 | [],_,_,h=>by cases h
 | o::r,i,n,h=>by
  unfold hold at h;split at h
  ·rename_i e;rcases List.mem_cons.1 h with h | h
   ·grind
   ·obtain ⟨j,b,a⟩:=wO h;exact ⟨j+1,by omega,by simpa using a⟩
  ·obtain ⟨j,b,a⟩:=wO h;exact ⟨j+1,by omega,by simpa using a⟩
theorem E0 {w:Int}:∀ {os:List Int} {i:Nat},(hold w os i).Nodup
 | [],_=>.nil
 | o::r,i=>by
  unfold hold;split
  ·refine List.nodup_cons.2 ⟨λh=> ?_,E0⟩;obtain ⟨j,a,_⟩:=wO h;omega
  ·exact E0
theorem Gk {w:Int}:∀ {os:List Int} {i:Nat},(hold w os i).length<=os.length
 | [],_=>by simp [hold]
 | o::r,i=>by unfold hold;have:=Gk (w:=w) (os:=r) (i:=i+1);grind
theorem PJ {w:Int}:∀ {os:List Int} {i t:Nat} {o:Int},os[t]? =some o->hold w (os.take (t+1)) i=hold w (os.take t) i++(if o=w then [((i+t:Nat):Int)] else [])
 | [],_,_,_,h=>by cases h
 | a::r,i,0,o,h=>by
  have h:a=o:=by simpa using h
  subst h;simp [hold]
 | a::r,i,t+1,o,h=>by have b:=PJ (w:=w) (i:=i+1) (t:=t) (o:=o) (os:=r) (by simpa using h);rw [List.take_succ_cons,List.take_succ_cons];unfold hold;grind
def mR (z:List Int×List (List Int)×List Int) (n:Int):List Int×List (List Int)×List Int:=
 match z.2.1.getD n.toNat [] with
 | []=>(z.1.set n.toNat (-1),z.2.1,z.2.2++ [-1])
 | a::r=>(z.1.set n.toNat a,z.2.1.set n.toNat r,z.2.2++ [a])
theorem PK {w:Int}:∀ {os:List Int} {qs:List (List Int)} {po:List Int} {pq:List (List Int)} {G:List Int},os.length=qs.length->po.length=pq.length->
  (hold w os po.length).foldl mR (po++os,pq++qs,G)=(po++(kB w os qs).1,pq++(kB w os qs).2.1,G++(kB w os qs).2.2)
 | [],[],po,pq,G,_,_=>by simp [hold,kB]
 | o::os,q::qs,po,pq,G,f,hp=>by
  have f:os.length=qs.length:=by simpa using f
  have step:∀(c:Int) (d:List Int) (b:List Int),(hold w os (po.length+1)).foldl mR (po++c::os,pq++d::qs,b)=(po++c::(kB w os qs).1,pq++d::(kB w os qs).2.1,b++(kB w os qs).2.2):=λc d b=>by have:=PK (w:=w) (po:=po++ [c]) (pq:=pq++ [d]) (G:=b) f (by simp [hp]);simpa using this
  by_cases e:o=w
  ·unfold hold kB;rw [if_pos e,if_pos e,List.foldl_cons];have i:(pq++q::qs).getD po.length []=q:=by rw [hp];simp [List.getD]
   have g:∀v:Int,(po++o::os).set po.length v=po++v::os:=λv=>by rw [List.set_append_right _ _ (Nat.le_refl _)];simp
   have j:∀v:List Int,(pq++q::qs).set po.length v=pq++v::qs:=λv=>by rw [hp,List.set_append_right _ _ (Nat.le_refl _)];simp
   have k:mR (po++o::os,pq++q::qs,G) (po.length:Int)=(match q with
     | []=>(po++ -1::os,pq++ []::qs,G++ [-1])
     | a::r=>(po++a::os,pq++r::qs,G++ [a])):=by
    unfold mR;dsimp only;rw [Int.toNat_natCast,i];cases q with
    | nil=>dsimp only;rw [g]
    | cons a r=>dsimp only;rw [g,j]
   grind
  ·unfold hold kB;grind
 | [],_::_,_,_,_,h,_=>by cases h
 | _::_,[],_,_,_,h,_=>by cases h
theorem TM (z:List Int×List (List Int)×List Int) (n:Int):(mR z n).1.length=z.1.length/\(mR z n).2.1.length=z.2.1.length:=by unfold mR;split<;>simp
theorem Lb :∀(l:List Int) (z:List Int×List (List Int)×List Int),(l.foldl mR z).1.length=z.1.length/\(l.foldl mR z).2.1.length=z.2.1.length
 | [],_=>⟨rfl,rfl⟩
 | n::l,z=>by have a:=Lb l (mR z n);have b:=TM z n;grind
theorem MY :∀(l:List Int) (z:List Int×List (List Int)×List Int) (j:Nat),(∀n∈l,n.toNat≠j)->(l.foldl mR z).1[j]? =z.1[j]?/\(l.foldl mR z).2.1[j]? =z.2.1[j]?
 | [],_,_,_=>⟨rfl,rfl⟩
 | n::l,z,j,h=>by
  have c:=MY l (mR z n) j λm b=>h m (List.mem_cons_of_mem _ b);have a:=h n (List.mem_cons_self ..);have d:(mR z n).1[j]? =z.1[j]?/\(mR z n).2.1[j]? =z.2.1[j]?:=by
   unfold mR;split
   ·exact ⟨List.getElem?_set_ne a,rfl⟩
   ·exact ⟨List.getElem?_set_ne a,List.getElem?_set_ne a⟩
  grind
section
variable {h0 k:Hp} {p:Addr} {os:List Int} {qs:List (List Int)} {sl:Sl} {xs:List aU}
theorem acb {n:Nat} {w:Int} (a:xs.map (·.owner)=os) (b:os[n]? =some w):∃x,xs[n]? =some x/\x.owner=w:=by grind
theorem Lc {n:Nat} {w:Int} {q:List Int} {Q:Int->Int->Hp->Prop} (o:Has h0 (oH p os qs) k) (E:0<=w) (D:os[n]? =some w) (j:qs[n]? =some q)
  (h1:q=[]->∀g,Has h0 (oH p (os.set n (-1)) qs) g->Q (-1) 0 g) (A:∀a r,q=a::r->∀g,Has h0 (oH p (os.set n a) (qs.set n r)) g->Q a 0 g):Z4 prog (some p) (n:Int) w Q k:=by
 unfold Z4;have V:n<qs.length:=(List.getElem?_eq_some_iff.1 j).1;refine zpw (PH o ⟨by omega,by omega⟩ E ?_);rw [if_neg (by decide)];obtain ⟨sl,xs,h,R,o⟩:=o.nM;obtain ⟨x,b,G⟩:=acb h D;have C:=(o.sf b (K:=λ_=>True) trivial).1;have l:=(List.getElem?_eq_some_iff.1 b).1;refine aJ (o.xv ⟨C,?_⟩);refine aJ (o.sf b ?_).2;rw [if_neg (show ¬(x.owner !=w)=true by simp [G])];refine aJ (o.tF b ?_).2;obtain ⟨S,_,I,W⟩:=o.f3;obtain ⟨T,_,u,X⟩:=I.uT b j;have f:=u.jR;cases q with
 | nil=>have f:x.queue.len=0:=f;rw [if_pos (by simp [f])];refine aJ (o.qc (v:= -1) b λs e=> ?_);have d:(xs.set n (⟨-1,x.queue⟩:aU))[n]? =some ⟨-1,x.queue⟩:=List.getElem?_set_self l;refine aJ (e.sf d ?_).2;exact h1 rfl s (e.jW (by rw [List.map_set,h]) (by grind))
 | cons a r=>
  have f:x.queue.len=r.length+1:=by simpa using f
  rw [if_neg (by simp;omega)];refine aJ (o.tF b ?_).2;have P:Rs k (af .i64) 1 x.queue (a::r):=u.mO (λ_=>rfl);refine P.get (λ_=>rfl) (by omega) (by omega) (by simp) λ(y:Int) m=> ?_;have m:y=a:=by grind
  subst m;refine aJ (o.qc (v:=y) b λs e=> ?_);have d:(xs.set n (⟨y,x.queue⟩:aU))[n]? =some ⟨y,x.queue⟩:=List.getElem?_set_self l;refine aJ (e.tF d ?_).2;refine aJ (e.tF d ?_).2;refine aJ (e.tF d ?_).2;obtain ⟨B,_,J,N⟩:=e.f3;obtain ⟨U,_,z,O⟩:=J.uT d j;have i:=z.yu;have i:x.queue.len<=x.queue.cap:=i;refine ⟨by dsimp only;omega,aE ?_⟩;dsimp only;rw [Int.toNat_natCast];have L:=z.rY (λ_=>rfl) (c:=x.queue.len) (Nat.le_refl _) i;have M:=N _ _ (O ⟨y,⟨bq x.queue.base 1 1 x.queue.len,x.queue.len-1,x.queue.len-1⟩⟩ _ _ L);refine aJ (Has.uU (x:=⟨y,x.queue⟩) (q:=y::r) (h1:=B) M d λH t=> ?_);have F:((xs.set n (⟨y,x.queue⟩:aU)).set n ⟨y,⟨bq x.queue.base 1 1 x.queue.len,x.queue.len-1,x.queue.len-1⟩⟩)[n]? =some ⟨y,⟨bq x.queue.base 1 1 x.queue.len,x.queue.len-1,x.queue.len-1⟩⟩:=List.getElem?_set_self (by grind);refine aJ (t.sf F ?_).2;exact A y r rfl H (t.jW (by rw [List.map_set,List.map_set,h,List.set_set]) (by grind))
theorem PL {w:Int} {Q:Sl->Hp->Prop} (o:Has h0 (oH p os qs) k) (u:qs.length<=1000) (z:0<=w) (t:∀s a,Has h0 ((oH p os qs).star (ff 1 fX s (hold w os 0))) a->Q s a):Zo prog (some p) w Q k:=by
 unfold Zo;obtain ⟨sl,xs,j,l,o⟩:=o.nM;have x:=o.right.left.jR;have v:os.length=qs.length:=by grind
 refine aJ (o.xv ?_);have nil:Has k (ff 1 fX (⟨none,0,0⟩:Sl) ([]:List Int)) k:=Has.mJ (Hp.le_refl _);refine bL.intro (λ(s:Sl) (i:Int) a=>0<=i/\i<=(qs.length:Int)/\Has h0 ((dM p sl xs qs).star (ff 1 fX s (hold w (os.take i.toNat) 0))) a) (λ_ i _=>(qs.length-i).toNat) ⟨by omega,by omega,by simpa [hold] using o.beside nil⟩ ?_;rintro s i a ⟨i0,i1,o⟩;by_cases g:i<(qs.length:Int)
 ·rw [if_pos (iW)];refine ⟨λf c=>i<(qs.length:Int)/\Has h0 ((dM p sl xs qs).star (ff 1 fX f (hold w (os.take (i.toNat+1)) 0))) c,?_,?_⟩
  ·refine (Has.left o).Du.get (λ_=>rfl) (by omega) i0 (by omega) λ(y:aU) A=>aE ?_;have r:os[i.toNat]? =some y.owner:=by grind
   have b:=PJ (w:=w) (i:=0) r;rw [show (w !=(-1:Int))=true by simp;omega,Bool.and_true];by_cases e:y.owner=w
   ·rw [if_pos (by simp [e])];rw [if_pos e] at b;obtain ⟨n,_,d,_,h⟩:=o.snd;have q:=Gk (w:=w) (os:=os.take i.toNat) (i:=0);rw [List.length_take] at q;refine d.push (e:=i) rfl (λ_=>rfl) (λ_=>rfl) rfl ⟨by omega,by omega⟩ λf c B=> ?_;grind
   ·rw [if_neg (by simp [e])];rw [if_neg e,List.append_nil] at b;exact ⟨g,by rw [b];exact o⟩
  ·rintro f c ⟨_,o⟩;rw [aV];grind
 ·rw [if_neg (λe=>g (by grind))];refine t _ a ?_;have m:i.toNat=os.length:=by omega
  rw [m,List.take_length] at o;obtain ⟨n,_,d,_,h⟩:=o.fst;exact h _ _ (d.jW j l)
end
abbrev eG :cZ->List Value:=λg=> [.int .i64 g.HN,.int .i64 g.cU]
abbrev Av (l:Sl) (a:List (List Int)):eD:=kC (bh.ok (sh:=aw) (sz:=1) ft) l a
section
variable {h0 k:Hp} {p:Addr} {os:List Int} {qs:List (List Int)} {sl:Sl} {xs:List aU}
def fJ (w:Int) (q:List Int):List Int:=jo (λz=>decide (z=w)) q
theorem Yr {w:Int} {Q:Sl->Hp->Prop} (o:Has h0 (oH p os qs) k) (hl:qs.length<=1000/\∀q∈qs,q.length<=100) (d5:os.length=qs.length) (hw:0<=w)
  (hq:∀s b gs,gs.map cZ.cU=(kB w os (qs.map (fJ w))).2.2->Has h0 ((oH p (kB w os (qs.map (fJ w))).1 (kB w os (qs.map (fJ w))).2.1).star (ff 2 eG s gs)) b->Q s b):zqm prog (some p) w Q k:=by
 unfold zqm;obtain ⟨sl,xs,d,u,o⟩:=o.nM;have hs:=o.right.left.jR;refine aJ (o.xv ?_);refine aB.intro (λ(i:Int) b=>0<=i/\i<=(qs.length:Int)/\∃xs,xs.map (·.owner)=os/\xs.length=qs.length/\Has h0 (dM p sl xs ((qs.take i.toNat).map (fJ w)++qs.drop i.toNat)) b) (λi _=>(qs.length-i).toNat) ⟨by omega,by omega,xs,d,u,by simpa using o⟩ ?_;rintro i b ⟨i0,i1,xs,d,u,o⟩;by_cases O:i<(qs.length:Int)
 ·rw [if_pos (iW)];have hi:i.toNat<qs.length:=by omega
  have F:=List.getElem?_eq_getElem hi;generalize qs[i.toNat]=q at F;have Y:=Gj (f:=fJ w) F;have b5:i.toNat<xs.length:=by omega
  have H:=List.getElem?_eq_getElem b5;generalize xs[i.toNat]=x at H;have D:((i.toNat:Nat):Int)=i:=by omega
  have d6:=hl.2 q (List.mem_of_getElem? F);refine ⟨λ_ c=>i<(qs.length:Int)/\∃xs,xs.map (·.owner)=os/\xs.length=qs.length/\Has h0 (dM p sl xs ((qs.take (i.toNat+1)).map (fJ w)++qs.drop (i.toNat+1))) c,?_,?_⟩
  ·refine aJ (o.xv ?_);have X:=o.tF H (K:=λy=>y=x.queue) rfl;rw [D] at X;obtain ⟨N,y,hy,rfl⟩:=X;refine ⟨N,_,hy,?_⟩;obtain ⟨P,_,o4,c9⟩:=o.f3;obtain ⟨E,_,C,J⟩:=o4.uT H Y;refine zml (Px (C.mO (λ_=>rfl)) (by omega) ?_);have U:=DZ (λz:Int=>decide (z=w)) q;by_cases hp:qI w q>=0
   ·rw [if_pos (decide_eq_true hp)];have b7:qI w q<q.length:=MM hp;refine aJ (o.xv ?_);refine aJ (o.xv ?_);refine ⟨N,_,hy,?_⟩;obtain ⟨n,B⟩:∃n:Nat,qI w q=n:=⟨(qI w q).toNat,by omega⟩;have I:prog.underlying 23=some (.slice 3):=cD.cH 23 uX rfl;have b3:∀(M:Sl->Hp->Prop),(∀g b,Has E (ff 1 fX g (q.take n++q.drop (n+1))) b->M g b)->VZ prog x.queue (n:Int) ((n+1:Nat):Int) M b:=λM b0=>by
     unfold VZ;exact Has.Iq (bytes:=8) (z:=.int .i64 0) I (λhK=>Fz cD (e:=zV) rfl hK) (λ_=>rfl) (λ_=>rfl) rfl (λm=>by induction m with
      | zero=>rfl
      | succ m ih=>exact ih) C (by omega) (by omega) ⟨by omega,by omega⟩ b0
    rw [B,aV];refine zuu (b3 _ λg c R=> ?_);have l:=c9 _ _ (J ⟨x.owner,g⟩ _ _ R);refine ⟨⟨l.left.fG (n:=1) rfl,trivial⟩,N,?_⟩;have c6:q.take n++q.drop (n+1)=fJ w q:=by have b8:jP (λz:Int=>decide (z=w)) q=n:=B;show _=jo (λz=>decide (z=w)) q;rw [U,b8,if_pos (by omega),Int.toNat_natCast]
    rw [c6,BH F] at l;have key:cX c ((sat sl.base 2 ((i.toNat:Nat):Int)).add 1) [g.v] λk4=>i<(qs.length:Int)/\∃xs,xs.map (·.owner)=os/\xs.length=qs.length/\Has h0 (dM p sl xs ((qs.take (i.toNat+1)).map (fJ w)++qs.drop (i.toNat+1))) k4:=by obtain ⟨h8,_,S,a8⟩:=l.f2;refine S.DG (λ_=>rfl) H (x':=⟨x.owner,g⟩) (show (2:Nat)<=2 by decide) rfl λk4 o9=> ?_;refine ⟨O,xs.set i.toNat ⟨x.owner,g⟩,?_,by rw [List.length_set];exact u,a8 _ _ o9⟩;rw [List.map_set,d];refine uY ?_;rw [<-d,List.getElem?_map,H];rfl
    grind
   ·rw [if_neg (λh=>hp (of_decide_eq_true h))];refine ⟨O,xs,d,u,?_⟩;have c5:fJ w q=q:=by show jo (λz=>decide (z=w)) q=q;rw [U,if_neg (show ¬0<=jP (λz:Int=>decide (z=w)) q from hp)]
    have:=BH (f:=fJ w) F;rw [c5,uY Y] at this;grind
  ·rintro _ c ⟨_,xs,d,u,o⟩;rw [aV];refine ⟨⟨by omega,by omega,xs,d,u,?_⟩,by omega⟩;rw [show (i+1).toNat=i.toNat+1 by omega];exact o
 ·rw [if_neg (λe=>O (by grind))];have D:i.toNat=qs.length:=by omega
  rw [D,List.take_length,List.drop_length,List.append_nil] at o;have o:Has h0 (oH p os (qs.map (fJ w))) b:=o.jW d (by grind);refine zpt (PL o (by grind) hw λs k1 o=> ?_);have d4:=o.right.jR;have d1:=Gk (w:=w) (os:=os) (i:=0);have rs:∀c,Has h0 ((oH p os (qs.map (fJ w))).star (ff 1 fX s (hold w os 0))) c->Rw c 1 fX s (hold w os 0):=λc o=>o.right.mO (λ_=>rfl);have nil:Has k1 (ff 2 eG (⟨none,0,0⟩:Sl) ([]:List cZ)) k1:=Has.mJ (Hp.le_refl _);have V:=PK (w:=w) (os:=os) (qs:=qs.map (fJ w)) (po:=[]) (pq:=[]) (G:=[]) (by grind) rfl;simp only [List.nil_append,List.length_nil] at V;refine bL.intro (λ(t:Sl) (i:Int) b=>0<=i/\i<=((hold w os 0).length:Int)/\∃gs:List cZ,gs.map cZ.cU=(((hold w os 0).take i.toNat).foldl mR (os,qs.map (fJ w),[])).2.2/\gs.length=i.toNat/\
   Has h0 (((oH p (((hold w os 0).take i.toNat).foldl mR (os,qs.map (fJ w),[])).1 (((hold w os 0).take i.toNat).foldl mR (os,qs.map (fJ w),[])).2.1).star (ff 1 fX s (hold w os 0))).star (ff 2 eG t gs)) b) (λ_ i _=>((hold w os 0).length-i).toNat)
   ⟨by omega,by omega,[],by simp,rfl,by simpa using o.beside nil⟩ ?_
  rintro t i b ⟨i0,i1,gs,L,b4,o⟩;by_cases P:i<((hold w os 0).length:Int)
  ·rw [if_pos (iW)];have hr:Rs b (af .i64) 1 s (hold w os 0):=o.left.right.mO (λ_=>rfl);refine hr.get (λ_=>rfl) (by omega) i0 P λ(n:Int) B=> ?_;obtain ⟨j,hj,c4⟩:=wO (List.mem_of_getElem? B);have b6:n=(j:Int):=by omega
   subst b6;generalize I:((hold w os 0).take i.toNat).foldl mR (os,qs.map (fJ w),[])=z at o L;have c3:∀m∈(hold w os 0).take i.toNat,m.toNat≠j:=λm hm e=>by
    obtain ⟨a,A⟩:=List.getElem?_of_mem hm;rw [List.getElem?_take] at A;split at A
    ·rename_i b7;obtain ⟨j2,d2,_⟩:=wO (List.mem_of_getElem? A);have em:m=(j:Int):=by omega
     rw [em] at A;have b9:=E0 (w:=w) (os:=os) (i:=0);obtain ⟨b1,b2⟩:=List.getElem?_eq_some_iff.1 A;obtain ⟨c1,c2⟩:=List.getElem?_eq_some_iff.1 B;exact List.pairwise_iff_getElem.1 b9 a i.toNat b1 c1 (by omega) (b2.trans c2.symm)
    ·cases A
   have T:=MY ((hold w os 0).take i.toNat) (os,qs.map (fJ w),[]) j c3;rw [I] at T;have c7:=Lb ((hold w os 0).take i.toNat) (os,qs.map (fJ w),[]);rw [I] at c7;have d3:j<qs.length:=by grind
   obtain ⟨q,Z⟩:∃q,z.2.1[j]? =some q:=⟨_,List.getElem?_eq_getElem (by grind)⟩;have c8:z.1[j]? =some w:=T.1.trans c4;obtain ⟨E,_,C,_,J⟩:=o.fst;obtain ⟨h6,_,R,_,d0⟩:=C.fst;have c0:((hold w os 0).take (i.toNat+1)).foldl mR (os,qs.map (fJ w),[])=mR z (j:Int):=by rw [List.take_add_one,B,List.foldl_append,I];rfl
   have W:z.2.1.getD j []=q:=rM Z;have fin:∀(v:Int) c,(mR z (j:Int)).2.2=z.2.2++ [v]->Has h6 (oH p (mR z (j:Int)).1 (mR z (j:Int)).2.1) c->
     bc [.int .i64 (j:Int),.int .i64 v] (λa E=>eC 2 16 [(.int .i64 (0:Int)),(.int .i64 (0:Int))] ⟨t.base,t.len,t.cap⟩ ⟨(some a),1,1⟩ (λr3 a9=>
      (λ(t:Sl) (i:Int) b=>0<=i/\i<=((hold w os 0).length:Int)/\∃gs:List cZ,gs.map cZ.cU=(((hold w os 0).take i.toNat).foldl mR (os,qs.map (fJ w),[])).2.2/\gs.length=i.toNat/\
       Has h0 (((oH p (((hold w os 0).take i.toNat).foldl mR (os,qs.map (fJ w),[])).1 (((hold w os 0).take i.toNat).foldl mR (os,qs.map (fJ w),[])).2.1).star (ff 1 fX s (hold w os 0))).star (ff 2 eG t gs)) b) r3 (yw (i+1)) a9/\((hold w os 0).length-yw (i+1)).toNat<((hold w os 0).length-i).toNat) E) c:=by
    intro v c hv l;have oo:=J _ _ (d0 _ _ l);obtain ⟨h8,_,S,_,a8⟩:=oo.snd;refine S.push (e:=⟨(j:Int),v⟩) rfl (λ_=>rfl) (λ_=>rfl) rfl ⟨by omega,by omega⟩ λs2 k3 o9=> ?_;rw [aV];refine ⟨⟨by omega,by omega,gs++ [⟨(j:Int),v⟩],?_,?_,?_⟩,by omega⟩
    ·rw [show (i+1).toNat=i.toNat+1 by omega,c0,hv,List.map_append,L];rfl
    ·rw [List.length_append,b4];simp;omega
    grind
   refine zrl (Lc R hw c8 Z (λeq c l=> ?_) λa r eq c l=> ?_)
   ·have hg:mR z (j:Int)=(z.1.set j (-1),z.2.1,z.2.2++ [-1]):=by unfold mR;rw [Int.toNat_natCast,W,eq]
    grind
   ·have hg:mR z (j:Int)=(z.1.set j a,z.2.1.set j r,z.2.2++ [a]):=by unfold mR;rw [Int.toNat_natCast,W,eq]
    grind
  ·rw [if_neg (λe=>P (by grind))];have D:i.toNat=(hold w os 0).length:=by omega
   rw [D,List.take_length,V] at o L;refine hq _ b gs L ?_;obtain ⟨E,_,C,_,J⟩:=o.fst;exact J _ _ C.left
end
section
variable {h0 k:Hp} {p:Addr} {os:List Int} {qs:List (List Int)} {sl:Sl} {xs:List aU}
theorem Has.Sn {c:Type} {sh:Shape} {sz:Nat} {S:sh.T->c->Prop} {l:Sl} {b:List c} {v:sh.T} {q:c} {d zero:List Value} {bytes:Nat} {K:Sl->Hp->Prop} (o:Has h0 (kC (bh.ok (sh:=sh) (sz:=sz) (dN.ok S)) l b) k) (g:S v q)
  (i:d=bA (sh.enc v)) (j:∀x,(bA (sh.enc x)).length=sz) (n:∀x,jL (bA (sh.enc x))=true) (r:zero.length=sz) (hb:b.length+1<=140737488355328/\(b.length+1)*bytes<=140737488355328)
  (m:∀f e,Has h0 (kC (bh.ok (sh:=sh) (sz:=sz) (dN.ok S)) f (b++ [q])) e->K f e):bc d (λa s=>eC sz bytes zero l ⟨some a,1,1⟩ K s) k:=
 Has.row (okQ:=dN.ok S) (o.beside (Has.uR (Hp.le_refl k) ⟨rfl,g⟩ .nil λ_ h=>by cases h)) i j n r hb m
theorem TN {Q:Sl->Sl->Hp->Prop} (o:Has h0 (oH p os qs) k) (t:qs.length<=1000/\∀q∈qs,q.length<=100) (u:os.length=qs.length)
  (z:∀s a b,Has h0 ((oH p os qs).star ((wj s os).star (Av a qs))) b->Q s a b):Zf prog (some p) Q k:=by
 unfold Zf;obtain ⟨sl,xs,j,l,o⟩:=o.nM;have hs:=o.right.left.jR;refine aJ (o.xv ?_);have E:Has k (wj (⟨none,0,0⟩:Sl) ([]:List Int)) k:=Has.pP (okQ:=dN.ok Eq) (Hp.le_refl _);have F:Has k (Av (⟨none,0,0⟩:Sl) ([]:List (List Int))) k:=Has.pP (okQ:=ft) (Hp.le_refl _);refine rR.intro (λ(s a:Sl) (i:Int) b=>0<=i/\i<=(qs.length:Int)/\Has h0 ((dM p sl xs qs).star ((wj s (os.take i.toNat)).star (Av a (qs.take i.toNat)))) b) (λ_ _ i _=>(qs.length-i).toNat)
  ⟨by omega,by omega,by simpa using o.beside (E.beside F)⟩ ?_
 rintro s a i b ⟨i0,i1,o⟩;by_cases n:i<(qs.length:Int)
 ·rw [if_pos (iW)];refine (Has.left o).Du.get (λ_=>rfl) (by omega) i0 (by omega) λ(y:aU) A=> ?_;have r:i.toNat<qs.length:=by omega
  have c:=List.getElem?_eq_getElem r;generalize qs[i.toNat]=q at c;have a9:=t.2 q (List.mem_of_getElem? c);have w:os[i.toNat]? =some y.owner:=by grind
  have g:(⟨s.base,s.len,s.cap⟩:Sl)=s:=rfl;have h:(⟨a.base,a.len,a.cap⟩:Sl)=a:=rfl;rw [g,h];obtain ⟨X,_,I,R⟩:=o.f2;refine I.Sn (S:=Eq) (v:=y.owner) (q:=y.owner) rfl rfl (λ_=>rfl) (λ_=>rfl) rfl ⟨by rw [List.length_take];omega,by rw [List.length_take];omega⟩ λs1 B J=> ?_;have o:=R _ _ J;refine QO ?_;unfold Hq;obtain ⟨Y,_,K,_⟩:=(Has.left o).right.right.uT A c;refine Aj (cD.cH 23 uX rfl) (K.mO (λ_=>rfl)) (by decide) (λ_=>rfl) (λ_=>rfl) rfl ⟨by omega,by omega⟩ λV C a8 D=> ?_;have d:Has B (wj V q) C:=D.kq (f:=λx=>x) (λ_=>rfl) λ_=>rfl;have O:=(o.beside d).assoc;obtain ⟨Z,_,L,_,T⟩:=O.snd;obtain ⟨h8,_,M,_,U⟩:=L.assoc.snd;refine Has.row (sh:=aw) (okQ:=ft) M rfl (λ_=>rfl) (λ_=>rfl) rfl ⟨by rw [List.length_take];omega,by rw [List.length_take];omega⟩ λs2 k3 N=> ?_;have G:=T _ _ (U _ _ N);rw [aV];refine ⟨⟨by omega,by omega,?_⟩,by omega⟩;have t1:os.take (i.toNat+1)=os.take i.toNat++ [y.owner]:=by rw [List.take_add_one,w];rfl
  have t2:qs.take (i.toNat+1)=qs.take i.toNat++ [q]:=by rw [List.take_add_one,c];rfl
  rw [show (i+1).toNat=i.toNat+1 by omega,t1,t2];exact G
 ·rw [if_neg (λe=>n (by grind))];refine z _ _ b ?_;have m:i.toNat=qs.length:=by omega
  rw [m,List.take_length,<-u,List.take_length] at o;obtain ⟨W,_,H,_,P⟩:=o.fst;exact P _ _ (H.jW j l)
structure Od (os:List Int) (qs:List (List Int)):Prop where
 len:os.length=qs.length/\os.length<=8
 own:∀o∈os, -1<=o
 kW:∀(i:Nat) o q,os[i]? =some o->qs[i]? =some q->q.length<=100/\(o= -1->q=[])/\(∀z∈q,0<=z/\z≠o)/\q.Nodup
 once:∀(i j:Nat) q q',qs[i]? =some q->qs[j]? =some q'->i<j->∀z∈q',z∉q
theorem aaN {x:aU} {q:List Int} (c:xs.length=qs.length) (o:Has h0 ((wh xs qs).star (ff 1 fX x.queue q)) k):Has h0 (wh (xs++ [x]) (qs++ [q])) k:=by
 unfold wh;rw [List.length_append];show Has h0 ((eD.first (λi=>ff 1 fX ((xs++ [x]).getD i vI).queue ((qs++ [q]).getD i [])) qs.length).star (ff 1 fX ((xs++ [x]).getD qs.length vI).queue ((qs++ [q]).getD qs.length []))) k;have a:(xs++ [x]).getD qs.length vI=x:=by simp [List.getD,<-c]
 have b:(qs++ [q]).getD qs.length []=q:=by simp [List.getD]
 rw [a,b];refine cast (congrArg (λA=>Has h0 (A.star (ff 1 fX x.queue q)) k) (vR λi d=> ?_)) o;grind
theorem dM.wz {b:Sl} {K:Hp->Prop} (o:Has h0 ((dZ Hw p ⟨sl⟩).star ((ff 2 eL b xs).star (wh xs qs))) k) (c:∀a,Has h0 (dM p b xs qs) a->K a):cX k (p.add 0) [b.v] K:=by obtain ⟨f,_,e,put⟩:=o.f1;exact e.st (⟨b⟩:gk) (show (1:Nat)<=1 by decide) rfl λa d=>c a (put _ _ d)
theorem Yt {M sq:Sl} {B:List Sl} {Q:Option Addr->Int->Hp->Prop} (v:Od os qs) (X:Is k M os) (L:Rs k aw 1 sq B) (a:dR (Is k) B qs) (hq:∀p c,k<=c->Has k (oH p os qs) c->Q (some p) 0 c):El prog M sq Q k:=by
 unfold El;have d3:=X.1;have d4:=L.1;have d6:=a.len;have a9:=v.len;refine aE ?_;rw [show (decide ((M.len:Int)>8) || decide ((sq.len:Int)>8))=false by simp;omega,if_neg (by decide),if_neg (by simp;omega)];refine vk (sh:=Hw) ⟨⟨none,0,0⟩⟩ rfl λp H d2 o1=> ?_;have CU:Has k (dM p ⟨none,0,0⟩ [] []) H:=o1.beside ((Has.mJ (Hp.le_refl H)).beside (Has.fact trivial (Hp.le_refl H)));refine aB.intro (λ(i:Int) c=>0<=i/\i<=(os.length:Int)/\∃(sl:Sl) (xs:List aU),xs.map (·.owner)=os.take i.toNat/\Has k (dM p sl xs (qs.take i.toNat)) c) (λi _=>(os.length-i).toNat) ⟨by omega,by omega,_,[],by simp,by simpa using CU⟩ ?_;rintro i c ⟨i0,i1,sl,xs,l,o⟩;by_cases O:i<(os.length:Int)
 ·rw [if_pos (iW)];have F:xs.length=i.toNat:=by have:=congrArg List.length l;grind
  refine Rs.get (sh:=af .i64) (Rw.mono o.le X) (λ_=>rfl) (by omega) i0 O λ(w:Int) D=> ?_;have d5:=v.own w (List.mem_of_getElem? D);have c8:Rs c aw 1 sq B:=Rw.mono o.le L;have hi:i.toNat<qs.length:=by omega
  have f:=List.getElem?_eq_getElem hi;generalize qs[i.toNat]=q at f;obtain ⟨y,S,G⟩:=a.get' f;obtain ⟨v1,v2,v3,v4⟩:=v.kW i.toNat w q D f;refine c8.pH (⟨none,0,0⟩:Sl) (λ_=>rfl) (by omega) (λ_=>⟨i0,by omega⟩) λ(y0:Sl) b6=> ?_;have g:((w==(-1:Int))&&decide ((y0.len:Int)>0))=false:=by
   by_cases e:w= -1
   ·have:=b6 (by simp [e]);rw [S] at this;cases this;have b0:=G.1;grind
   ·simp [e]
  refine aE (aE ?_);rw [g,show decide (w<(-1:Int))=false by simp;omega,if_neg (by decide)];refine aJ (o.xv ?_);obtain ⟨h4,_,o4,c5⟩:=o.f2;refine o4.push (e:=⟨w,⟨none,0,0⟩⟩) rfl (λ_=>rfl) (λ_=>rfl) rfl ⟨by omega,by omega⟩ λA I o5=> ?_;have o6:=c5 _ _ o5;have nil:Has I (ff 1 fX (⟨w,⟨none,0,0⟩⟩:aU).queue []) I:=Has.mJ (Hp.le_refl _);have o7:Has k ((dZ Hw p ⟨sl⟩).star ((ff 2 eL A (xs++ [⟨w,⟨none,0,0⟩⟩])).star (wh (xs++ [⟨w,⟨none,0,0⟩⟩]) (qs.take i.toNat++ [[]])))) I:=by have oo:=(o6.beside nil).assoc;obtain ⟨h8,_,u,_,c6⟩:=oo.snd;obtain ⟨h9,_,d,_,c7⟩:=u.assoc.snd;exact c6 _ _ (c7 _ _ (aaN (by grind) d))
  refine aJ (dM.wz o7 λk3 u=> ?_);have c9:Rs k3 aw 1 sq B:=Rw.mono u.le L;refine c9.get (λ_=>rfl) (by omega) i0 (by omega) λ(h:Sl) T=> ?_;rw [S] at T;cases T;have b0:=G.1;have r:(qs.take i.toNat).length=i.toNat:=by grind
  refine aB.intro (λ(j:Int) c=>0<=j/\j<=(q.length:Int)/\∃(s:Sl),Has k (dM p A (xs++ [⟨w,s⟩]) (qs.take i.toNat++ [q.take j.toNat])) c) (λj _=>(q.length-j).toNat) ⟨by omega,by omega,_,by simpa using u⟩ ?_;rintro j k4 ⟨j0,j1,s,d⟩;by_cases P:j<(q.length:Int)
  ·rw [if_pos (iW)];have b5:Is k4 y q:=Rw.mono d.le G;refine b5.get (λ_=>rfl) (by omega) j0 P λ(z:Int) g=> ?_;have V:=List.mem_of_getElem? g;have d7:=v3 z V;have b3:(xs++ [(⟨w,s⟩:aU)]).length=(qs.take i.toNat++ [q.take j.toNat]).length:=by simp [r,F]
   refine zpu (PI d b3 ⟨by simp [r];omega,λJ hq'=> ?_⟩ (λJ hq'=> ?_) ?_)
   ·rcases List.mem_append.1 hq' with hq' | hq'
    ·obtain ⟨b,hb⟩:=List.getElem?_of_mem (List.mem_of_mem_take hq');have d1:=(List.getElem?_eq_some_iff.1 hb).1;exact (v.kW b _ J (List.getElem?_eq_getElem (show b<os.length by omega)) hb).1
    grind
   ·rcases List.mem_append.1 hq' with hq' | hq'
    ·obtain ⟨b,hb⟩:=List.getElem?_of_mem hq';rw [List.getElem?_take] at hb;split at hb
     ·rename_i C;exact v.once b i.toNat J q hb f C z V
     ·cases hb
    ·rw [List.mem_singleton.1 hq'];intro hm;obtain ⟨b,hb⟩:=List.getElem?_of_mem hm;rw [List.getElem?_take] at hb;split at hb
     ·rename_i C;obtain ⟨Z,b2⟩:=List.getElem?_eq_some_iff.1 hb;obtain ⟨c1,c2⟩:=List.getElem?_eq_some_iff.1 g;exact List.pairwise_iff_getElem.1 v4 b j.toNat Z c1 C (b2.trans c2.symm)
     ·cases hb
   ·refine aE (aE ?_);rw [show (false || decide (z<0) || z==w)=false by simp;omega,if_neg (by decide)];have E:(xs++ [(⟨w,s⟩:aU)])[i.toNat]? =some ⟨w,s⟩:=by rw [<-F];simp
    have b4:(qs.take i.toNat++ [q.take j.toNat])[i.toNat]? =some (q.take j.toNat):=by rw [List.getElem?_append_right (by omega),r];simp
    have m:((i.toNat:Nat):Int)=i:=by omega
    refine aJ (d.xv ?_);refine aJ (d.xv ?_);have R:=d.tF E (K:=λy=>y=s) rfl;rw [m] at R;obtain ⟨N,Y,U,rfl⟩:=R;refine ⟨N,_,U,?_⟩;obtain ⟨a8,_,b7,c3⟩:=d.f3;obtain ⟨d0,_,b8,c4⟩:=b7.uT E b4;refine oh (xs:=[z]) (sz:=1) (enc:=fX) rfl (λ_=>rfl) λa2 k5 t n5=> ?_;refine ⟨⟨nE t (d.left.fG (n:=1) rfl),nE t (d.left.fG (n:=1) rfl),nE t U,trivial⟩,?_⟩;refine (b8.grow t).app (n5.mO (λ_=>rfl)) (λ_=>rfl) (λ_=>rfl) rfl ⟨by simp [List.length_take];omega,by simp [List.length_take];omega⟩ λs2 k6 b9=> ?_;have W:=c3 _ _ (c4 ⟨w,s2⟩ _ _ b9);refine ⟨⟨W.left.fG (n:=1) rfl,trivial⟩,N,?_⟩;have key:=Has.uU (x:=⟨w,Y⟩) (q:=q.take j.toNat) (h1:=a8) W E λk7 c0=>(show (λh c=>(0<=h/\h<=(q.length:Int)/\∃(s:Sl),Has k (dM p A (xs++ [⟨w,s⟩]) (qs.take i.toNat++ [q.take h.toNat])) c)/\((q.length:Int)-h).toNat<((q.length:Int)-j).toNat) (yw (j+1)) k7 from by
     rw [aV];refine ⟨⟨by omega,by omega,s2,?_⟩,by omega⟩;have t1:(xs++ [(⟨w,Y⟩:aU)]).set i.toNat ⟨w,s2⟩=xs++ [⟨w,s2⟩]:=by rw [List.set_append_right _ _ (by omega),<-F];simp
     have t2:(qs.take i.toNat++ [q.take j.toNat]).set i.toNat (q.take j.toNat++ [z])=qs.take i.toNat++ [q.take (j+1).toNat]:=by rw [List.set_append_right _ _ (by omega),r,show (j+1).toNat=j.toNat+1 by omega,List.take_add_one,g];simp
     rw [<-t1,<-t2];exact c0)
    grind
  ·rw [if_neg (λe=>P (by grind))];rw [aV];have ej:j.toNat=q.length:=by omega
   rw [ej,List.take_length] at d;refine ⟨⟨by omega,by omega,A,xs++ [⟨w,s⟩],?_,?_⟩,by omega⟩
   ·rw [List.map_append,l,show (i+1).toNat=i.toNat+1 by omega,List.take_add_one,D];rfl
   ·rw [show (i+1).toNat=i.toNat+1 by omega,List.take_add_one,f];exact d
 ·rw [if_neg (λe=>O (by grind))];have m:i.toNat=os.length:=by omega
  rw [m,List.take_length] at l;rw [m,a9.1,List.take_length] at o;exact hq p c o.le (o.jW l (by grind))
end
abbrev eE :az->List Value:=λx=>bA (bn.enc x)
def mu (a b:az):Prop:=a.due<b.due\/a.due=b.due/\a.dY<b.dY
theorem aaO (a:az):¬mu a a:=by unfold mu;omega
theorem Of {a b c:az} (h:mu a b) (k:mu b c):mu a c:=by unfold mu at*;omega
theorem aaP {a b:az} (h:¬mu a b) (c:a≠b):mu b a:=by
 unfold mu at*;by_cases d:a.due=b.due
 ·by_cases e:a.dY=b.dY
  ·exact absurd (by cases a;cases b;grind) c
  ·omega
 ·omega
def qB (x y:Int):Int:=if x<y then -1 else if x>y then 1 else 0
theorem Yv {x y:Int} {Q:Int->Hp->Prop} {h:Hp} (a:Q (qB x y) h):ZG prog x y Q h:=by
 unfold ZG;refine zsn ?_;unfold zqq;refine zsn ?_;unfold zqq;dsimp only;rw [jO,if_neg (by simp)];unfold qB at a;by_cases b:x<y
 ·rw [if_pos (by simpa using b)];rw [if_pos b] at a;exact a
 ·rw [if_neg (by simpa using b)];rw [if_neg b] at a;by_cases c:x>y
  ·rw [if_pos (by simpa using c)];rw [if_pos c] at a;exact a
  ·rw [if_neg (by simpa using c)];rw [if_neg c] at a;exact a
theorem VV {x y:Int} {Q:Int->Hp->Prop} {h:Hp} (a:Q (qB x y) h):zqn prog x y Q h:=by
 unfold zqn;refine zvj ?_;unfold zuc;refine zvj ?_;unfold zuc;dsimp only;rw [jO,if_neg (by simp)];unfold qB at a;by_cases b:x<y
 ·rw [if_pos (by simpa using b)];rw [if_pos b] at a;exact a
 ·rw [if_neg (by simpa using b)];rw [if_neg b] at a;by_cases c:x>y
  ·rw [if_pos (by simpa using c)];rw [if_pos c] at a;exact a
  ·rw [if_neg (by simpa using c)];rw [if_neg c] at a;exact a
theorem ace {l:Sl} {u v:Int} {Q:Int->Hp->Prop} {h:Hp} (r:Rs h (af .i64) 1 l [u,v]) (d:Q (if u≠0 then u else v) h):DW prog l Q h:=by
 unfold DW;have a:=r.1;simp at a;refine aB.intro (λi k=>k=h/\(i=0\/(i=1/\u=0)\/(i=2/\u=0/\v=0))) (λi _=>(2-i).toNat) ⟨rfl,.inl rfl⟩ ?_;rintro i k ⟨rfl,c⟩;have w:yw (i+1)=i+1:=aV;rw [w];by_cases b:i=2
 ·grind
 ·rw [if_pos (show decide (i<(l.len:Int))=true by simp;omega)];refine Rs.get r (λ_=>rfl) (by omega) (by omega) (by simp;omega) λ(x:Int) e=> ?_;grind
def AJ (a b:az):Int:=if qB a.due b.due≠0 then qB a.due b.due else qB a.dY b.dY
theorem vJ {a b:az}:AJ a b<0↔mu a b:=by unfold AJ qB mu;omega
theorem Ld {a b:az} {Q:Int->Hp->Prop} {h:Hp} (e:∀c,h<=c->Q (AJ a b) c):zza prog a b Q h:=by unfold zza;refine SX (Yv ⟨⟨trivial,trivial,trivial⟩,?_⟩);refine TX (VV ?_);refine wW (xs:=([qB a.due b.due,qB a.dY b.dY]:List Int)) (enc:=λx=>bA ((af .i64).enc x)) (sz:=1) (Hp.le_refl h) rfl (λ_=>rfl) λa1 d f g=> ?_;exact Yk (fk:=⟨some a1,2,2⟩) (ace (g.rw λ_=>rfl) (e d f))
theorem acg {i j:Int} (d:0<=i) (e:0<=j) (c:i+j<9223372036854775808):yw (gQ .u64 (IntKind.wrap .u64 (yw (i+j))) 1)=(i+j) / 2:=by
 rw [wrap64 (by omega) c];have a:IntKind.wrap .u64 (i+j)=i+j:=by
  (try unfold yw);unfold IntKind.wrap
  simp only [IntKind.signed,IntKind.bits];grind
 rw [a];have b:gQ .u64 (i+j) 1=(i+j) / 2:=by
  unfold gQ;have:min (1:Int).toNat (IntKind.bits .u64)=1:=by decide
  grind
 rw [b,aV]
theorem VW {x:Sl} {c:List az} {d:az} {Q:Int->Bool->Hp->Prop} {h:Hp} (r:Rw h 2 eE x c) (F:c.length<=4398046511104) (K:c.Pairwise mu)
  (P:∀(i:Nat) b f,h<=f->i<=c.length->(∀e∈c.take i,mu e d)->(∀e∈c.drop i,¬mu e d)->Q (i:Int) b f):
  S1 prog x d ⟨Om, #[], #[]⟩ Q h:=by
 unfold S1;have T:=r.1;refine bL.intro (λi j k=>h<=k/\0<=i/\i<=j/\j<=(c.length:Int)/\(∀e∈c.take i.toNat,mu e d)/\(∀e∈c.drop j.toNat,¬mu e d)) (λi j _=>(j-i).toNat) ⟨Hp.le_refl h,by omega,by omega,by omega,λe v=>by simp at v,λe v=>by simp [T] at v⟩ ?_;rintro i j k ⟨o,E,W,M,G,D⟩;have B:=r.mono o;split
 ·rename_i e;have e:i<j:=by simpa using e
  rw [acg E (by omega) (by omega)];have H:i<=(i+j) / 2:=by omega
  have O:(i+j) / 2<j:=by omega
  generalize (i+j) / 2=m at H O;refine kL.intro (λs t U=>h<=U/\0<=s/\s<=t/\t<=(c.length:Int)/\(∀e∈c.take s.toNat,mu e d)/\(∀e∈c.drop t.toNat,¬mu e d)/\t - s<j-i) ?_ ?_
  ·refine ⟨by omega,?_⟩;refine mE (sh:=bn) B λ(l:az) A=> ?_;refine ⟨Om, #[], #[],rfl,rfl,KQ (a:=l) (b:=d) (Ld λf u=> ?_)⟩;obtain ⟨I,J⟩:=List.getElem?_eq_some_iff.1 A;by_cases p:AJ l d<0
   ·rw [if_pos (by simpa using p),aV];have n:=vJ.1 p;refine ⟨Hp.le_trans o u,by omega,by omega,M,λy hy=> ?_,D,by omega⟩;have:(m+1).toNat=m.toNat+1:=by omega
    rw [this,List.take_add_one,A] at hy;rcases List.mem_append.1 hy with hy | hy
    ·obtain ⟨q,g⟩:=List.mem_iff_getElem?.1 hy;rw [List.getElem?_take] at g;split at g
     ·rename_i S;obtain ⟨w,z⟩:=List.getElem?_eq_some_iff.1 g;have:=List.pairwise_iff_getElem.1 K q m.toNat w I S;rw [z,J] at this;exact Of this n
     ·cases g
    ·have:y=l:=by simpa using hy
     rw [this];exact n
   ·rw [if_neg (by simpa using p)];have n:¬mu l d:=λh=>p (vJ.2 h);refine ⟨Hp.le_trans o u,E,H,by omega,G,λy hy=> ?_,by omega⟩;obtain ⟨q,g⟩:=List.mem_iff_getElem?.1 hy;rw [List.getElem?_drop] at g;obtain ⟨w,z⟩:=List.getElem?_eq_some_iff.1 g;by_cases R:q=0
    ·subst R;rw [Nat.add_zero,A] at g;cases g;exact n
    ·have:=List.pairwise_iff_getElem.1 K m.toNat (m.toNat+q) I w (by omega);rw [z,J] at this;exact λhy=>n (Of this hy)
  grind
 ·rename_i e;have e:¬i<j:=by simpa using e
  have N:j=i:=by omega
  subst N;have X:(j.toNat:Int)=j:=by omega
  have C:∀b f,k<=f->Q j b f:=λb f F=>by have:=P j.toNat b f (Hp.le_trans o F) (by omega) G D;grind
  cases L:decide (j<(x.len:Int)) with
  | false=>refine Rs.pH (sh:=bn) B (⟨0,0⟩:az) (λ_=>rfl) (by omega) (λe=>by cases e) λ(l:az) _=> ?_;exact ⟨λe=>(by cases e),λ_=>⟨0,aE (C _ k (Hp.le_refl k))⟩⟩
  | true=>
   have V:j<(x.len:Int):=by simpa using L
   refine Rs.pH (sh:=bn) B (⟨0,0⟩:az) (λ_=>rfl) (by omega) (λ_=>by omega) λ(l:az) _=> ?_;refine R9 ⟨Om, #[], #[],rfl,rfl,KQ (a:=l) (b:=d) (Ld λf u=>aE (C _ f u))⟩
theorem Sa {P:Program} (d:Nat) (a b:Array Value):∀(L:List (Field×IntKind×Int×Int)) (w:World),
  (∀q∈L,q.1.name≠ "_" ∧P.underlying q.1.type=some (.int q.2.1)∧a[q.1.offset]? =some (.int q.2.1 q.2.2.1)∧b[q.1.offset]? =some (.int q.2.1 q.2.2.2))→
  (Op.eqFields (d+1) a b (L.map (·.1))).run P w=.ok (L.all λq=>q.2.2.1==q.2.2.2) w
 | [],w,_=>by simp [Op.eqFields]
 | q::L,w,h=>by
  obtain ⟨e,c,f,g⟩:=h q (List.mem_cons_self ..);have k:=Sa d a b L w λl j=>h l (List.mem_cons_of_mem _ j);have i:(isAgg q.1.type).run P w=.ok false w:=by simp [isAgg,run_underlying c]
  simp only [List.map_cons,Op.eqFields,Sem.run_bind,if_pos e,part,i,Result.andThen_ok,Bool.false_eq_true,if_false,f,g,Sem.run_pure,run_equalIn_int w d q.1.type q.2.1 q.2.1 q.2.2.1 q.2.2.2 c];cases hb:(q.2.2.1==q.2.2.2) with
  | false=>simp [hb]
  | true=>simp [hb,k]
theorem VY {P:Program} {t:Nat} {x y:Operand} {h:Hp} {a b:Array Value} (L:List (Field×IntKind×Int×Int)) (e:P.underlying t=some (.struct (L.map (·.1)).toArray)) (i:P.eqGuardType P.depth t=false) (hp:P.stoodInHeld t=false)
  (g:∀q∈L,q.1.name≠ "_" ∧P.underlying q.1.type=some (.int q.2.1)∧a[q.1.offset]? =some (.int q.2.1 q.2.2.1)∧b[q.1.offset]? =some (.int q.2.1 q.2.2.2)):
  kY P (dx .eql t x y (.agg a) (.agg b)) h (.bool (L.all λq=>q.2.2.1==q.2.2.2)):=by
 refine OW λw=> ?_;have d:P.fieldsOf t=(L.map (·.1)).toArray:=by unfold Program.fieldsOf;rw [e]
 have j:P.underlying t=some (.struct (P.fieldsOf t)):=by rw [d];exact e
 have c:=run_equalIn_struct (P:=P) w 9999 t a b j hp;rw [d] at c;have f:=Sa (P:=P) 9998 a b L w g;unfold dx;simp only [Sem.run_bind,run_eqGuard_agg w .eql t x y a b i,Result.andThen_ok,run_eql_struct];rw [show (10000:Nat)=9999+1 from rfl,c];simp only [f,Result.andThen_ok]
def Wh (h:Hp) (p:Addr) (a:List az) (F:List Nat):Prop:=
 ∃(b m:Nat) (sl:Sl) (G:List Nat) (c:List (Int×az)),p=⟨b,0,none⟩/\F=b::m::G/\eS h b [sl.v,.map (some m)]/\dF h 2 eE sl a G/\ia h m .i64 bn.enc c/\b∉G/\b≠m/\m∉G/\
  (c.map (·.1)).Nodup/\(∀id e,iY id c=some e↔e∈a/\e.dY=id)/\a.Pairwise mu
theorem ia.same {V:Type} {h a:Hp} {m:Nat} {k:IntKind} {ev:V->Value} {b:List (Int×V)} (f:ia h m k ev b) (e:a m=h m):ia a m k ev b:=by obtain ⟨g,ck,c,d⟩:=f;exact ⟨g,ck,by rw [e];exact c,d⟩
theorem ia.known {V:Type} {h:Hp} {m:Nat} {k:IntKind} {ev:V->Value} {c:List (Int×V)} (b:ia h m k ev c):h m≠none:=by obtain ⟨e,ck,a,d⟩:=b;rw [a];simp
theorem ia.mv {V:Type} {h b:Hp} {m:Nat} {k:IntKind} {ev:V->Value} {c:List (Int×V)} {F d:List Nat} (g:ia h m k ev c) (a:Mv F h d b) (i:m∉F):ia b m k ev c:=by obtain ⟨j,ck,e,f⟩:=g;exact ⟨j,ck,a.bO m _ e i,f⟩
theorem eS.same {h c:Hp} {b:Nat} {a:List Value} (k:eS h b a) (e:c b=h b):eS c b a:=by obtain ⟨t,d⟩:=k;exact ⟨t,by rw [e];exact d⟩
theorem Wh.same {h e:Hp} {p:Addr} {d:List az} {F:List Nat} (w:Wh h p d F) (a:∀b∈F,e b=h b):Wh e p d F:=by obtain ⟨b,m,sl,G,o,f,g,i,j,k,l⟩:=w;subst g;exact ⟨b,m,sl,G,o,f,rfl,i.same (a b (by simp)),j.same (λc n=>a c (by simp [n])),k.same (a m (by simp)),l⟩
theorem Wh.known {h:Hp} {p:Addr} {a:List az} {F:List Nat} (w:Wh h p a F):∀b∈F,h b≠none:=by
 obtain ⟨b,m,sl,G,k,i,d,e,f,g,j⟩:=w;subst d;intro c hc;simp only [List.mem_cons] at hc;rcases hc with rfl | rfl | hc
 ·exact e.known
 ·exact g.known
 ·exact f.known c hc
theorem Wh.sorted {h:Hp} {p:Addr} {a:List az} {F:List Nat} (w:Wh h p a F):a.Pairwise mu:=by obtain ⟨b,m,sl,G,q,d,f,g,i,j,k,l,n,o,e,c⟩:=w;exact c
theorem Wh.ids {h:Hp} {p:Addr} {a:List az} {F:List Nat} (w:Wh h p a F) {x y:az} (d:x∈a) (f:y∈a) (e:x.dY=y.dY):x=y:=by obtain ⟨b,m,sl,G,v,j,l,n,o,q,r,s,t,u,c,k⟩:=w;have g:=(c x.dY x).2 ⟨d,rfl⟩;have i:=(c x.dY y).2 ⟨f,e.symm⟩;grind
theorem pd {h:Hp} {b:Nat} {a:List Value} (k:eS h b a) {sh:Shape} (x:sh.T) {j:Nat} (c:(a.drop j).take (bA (sh.enc x)).length=bA (sh.enc x)) {K:sh.T->Prop} (d:K x):aN none sh h ((⟨b,0,none⟩:Addr).add j) K:=by refine ⟨x,?_,d⟩;show aZ h ((⟨b,0,none⟩:Addr).add j) _;rw [kE,Nat.zero_add];exact k.bU c
theorem aaR {h:Hp} {b:Nat} {a:List Value} (k:eS h b a) {sh:Shape} (x:sh.T) {j:Nat} {c:Bool} (f:(a.drop j).take (bA (sh.enc x)).length=bA (sh.enc x)) {K:sh.T->Prop} (g:K x):aN (some c) sh h ((⟨b,0,none⟩:Addr).add j) K:=by obtain ⟨y,d,e⟩:=pd k (sh:=sh) x f (K:=λy=>y=x) rfl;exact ⟨y,λ_=>d,e▸g⟩
theorem Yx {Q:Option Addr->Hp->Prop} {h:Hp} (k:∀p F a,h<=a->(∀b∈F,h b=none)->Wh a p [] F->Q (some p) a):RU prog Q h:=by
 unfold RU;intro m f;have g:=mY (o:=.map #[] 0) f;intro b t hb;have i:=mY (o:=.cells (([.slice none 0 0,.map (some m)]:List Value).toArray) t (0,0)) hb;have j:b≠m:=λe=>by rw [e,nz] at hb;cases hb
 refine k ⟨b,0,none⟩ [b,m] _ (Hp.le_trans g i) (λc d=> ?_) ⟨b,m,⟨none,0,0⟩,[],[],rfl,rfl,⟨t,nz⟩,⟨rfl,Nat.le_refl _,.inl ⟨rfl,rfl,rfl⟩⟩,⟨[],0,i _ _ nz,rfl⟩,by simp,j,by simp,by simp,λid e=>by simp [iY],List.Pairwise.nil⟩;simp only [List.mem_cons,List.not_mem_nil,or_false] at d;rcases d with rfl | rfl
 ·exact qj g hb
 ·exact f
theorem Yz {p:Addr} {a:List az} {F:List Nat} {id:Int} {Q:Int->Bool->Hp->Prop} {h:Hp} (w:Wh h p a F) (d:(∀e∈a,e.dY≠id)->Q 0 false h) (k:∀e∈a,e.dY=id->Q e.due true h):
  Rf prog (some p) id Q h:=by
 obtain ⟨b,m,sl,G,t,rfl,rfl,g,n,i,o,q,r,s,f,l⟩:=w;unfold Rf;refine aJ (pd g (sh:=ig) (some m) rfl ?_);refine BC (sh:=bn) (z:=⟨0,0⟩) i rfl (λj=>d λe c hid=> ?_) λe c=> ?_
 ·have:=(f id e).2 ⟨c,hid⟩;rw [j] at this;cases this
 grind
theorem YB {a b:List az} (c:a.Pairwise mu) (h:b.Sublist a):b.Pairwise mu:=c.sublist h
theorem D1 {a:List az} (b:a.Pairwise mu):a.Nodup:=b.imp λh e=>by subst e;exact aaO _ h
set_option maxHeartbeats 1000000 in
theorem E1 {p:Addr} {a:List az} {F:List Nat} {id:Int} {Q:Bool->Hp->Prop} {h:Hp} (w:Wh h p a F) (hl:a.length<=4398046511104) (X:(∀e∈a,e.dY≠id)->Q false h)
  (u:∀(i:Nat) e d,a[i]? =some e->e.dY=id->Mv F h F d->Wh d p (a.take i++a.drop (i+1)) F->Q true d):Q6 prog (some p) id Q h:=by
 obtain ⟨b,m,sl,G,E,rfl,rfl,y,B,N,O,R,S,T,L,M⟩:=w;unfold Q6;refine aJ (pd y (sh:=ig) (some m) rfl ?_);refine BC (sh:=bn) (z:=⟨0,0⟩) N rfl (λhn=> ?_) λe C=> ?_
 ·rw [if_pos (by rfl)];refine X λe C hid=> ?_;have:=(L id e).2 ⟨C,hid⟩;grind
 rw [jO];obtain ⟨b8,hid⟩:=(L id e).1 C;refine aJ (pd y (sh:=aw) sl rfl ?_);have b7:=B.1;have rs:Rw h 2 eE sl a:=B.rw λ_=>rfl;refine aB.intro (λi k=>k=h/\0<=i/\i<=(a.length:Int)/\e∉a.take i.toNat) (λi _=>(a.length-i).toNat) ⟨rfl,by omega,by omega,by simp⟩ ?_;rintro i k ⟨rfl,a9,b5,c0⟩;split
 ·rename_i r;have r:i<(sl.len:Int):=by simpa using r
  refine Rs.get (sh:=bn) rs (λ_=>rfl) (by omega) a9 (by omega) λ(x:az) A=> ?_;refine ⟨_,VY [(⟨ "due",2,0,false, "", "firebreak/wheel",0⟩,.i64,x.due,e.due),(⟨ "id",3,1,false, "", "firebreak/wheel",8⟩,.i64,x.dY,e.dY)] (cD.cH 216 vP rfl) (by kernel_rfl) (by kernel_rfl) (λq U=> ?_),?_⟩
  ·simp only [List.mem_cons,List.not_mem_nil,or_false] at U;rcases U with rfl | rfl
   ·exact ⟨by simp,cD.cH 2 wJ rfl,rfl,rfl⟩
   ·exact ⟨by simp,cD.cH 3 zV rfl,rfl,rfl⟩
  ·dsimp only;by_cases V:x=e
   ·subst V;rw [if_pos (by simp)];refine aJ (pd y (sh:=aw) sl rfl ?_);have b6:i.toNat<a.length:=(List.getElem?_eq_some_iff.1 A).1;have b0:((i.toNat:Nat):Int)=i:=by omega
    have b1:((i.toNat+1:Nat):Int)=i+1:=by omega
    rw [aV];have a8:∀(s:Sl->Hp->Prop),(∀l d,dF d 2 eE l (a.take i.toNat++a.drop (i.toNat+1)) G->Mv G k G d->s l d)->zdr prog sl i (i+1) s k:=by
     intro s Y;have:=ab2 (P:=prog) (h:=k) (sz:=2) (enc:=eE) (bytes:=16) (tS:=218) (tE:=216) (z:=.agg #[.int .i64 0,.int .i64 0]) (i:=i.toNat) (j:=i.toNat+1) (Q:=s) (cD.cH 218 yF rfl)
      (λhk=>Fz cD (t:=216) (e:=vP) rfl hk)
      (λ_=>rfl) (λ_=>rfl) rfl (λn=>by
       induction n with
       | zero=>rfl
       | succ n ih=>exact ih) B (by omega) (by omega) (by omega) Y
     rw [b0,b1] at this;exact this
    refine zif (a8 _ λl d o' H=> ?_);have k3:eS d b [sl.v,.map (some m)]:=y.mv H O;refine aJ ?_;refine qQ (b:=b) (off:=0) k3 (by simp) λf I k2=> ?_;have o2:dF f 2 eE l (a.take i.toNat++a.drop (i.toNat+1)) G:=o'.mv I (λc g=>by grind);have W:eS f b [l.v,.map (some m)]:=by simpa using k2
    refine aJ (pd W (sh:=ig) (some m) rfl ?_);have b3:ia f m .i64 bn.enc E:=(N.mv H S).mv I (by grind);refine Vw b3 λo ho b4=> ?_;have D:Mv [m] f [m] (f.set m o):=Mv.set;refine u i.toNat x _ A hid ?_ ⟨b,m,l,G,nK id E,rfl,rfl,W.mv D (by simp;exact R),o2.mv D (λc g=>by grind),b4,O,R,S,TD id T,?_,?_⟩
    ·have J:Mv (b::m::G) k (b::m::G) d:=H.sub (λc g=>by simp [g]) λc g=>.inr (.inl g);have K:Mv (b::m::G) d (b::m::G) f:=I.sub (λc g=>by grind) λc g=>.inr (.inl g);have q3:Mv (b::m::G) f (b::m::G) (f.set m o):=D.sub (λc g=>by grind) λc g=>.inr (.inl g);exact J.trans (K.trans q3)
    ·intro b2 e';rw [KT b2 id E T];have b9:=D1 M;have c1:a=a.take i.toNat++x::a.drop (i.toNat+1):=by
      have Z:a.drop i.toNat=x::a.drop (i.toNat+1):=by obtain ⟨J,K⟩:=List.getElem?_eq_some_iff.1 A;rw [List.drop_eq_getElem_cons J,K]
      rw [<-Z,List.take_append_drop]
     grind
    ·refine YB M ?_;have:(a.take i.toNat++a.drop (i.toNat+1)).Sublist (a.take i.toNat++a.drop i.toNat):=by grind
     rw [List.take_append_drop] at this;exact this
   ·rw [if_neg (by
     simp;intro u f;exact V (by cases x;cases e;simp at u f;simp [u,f])),aV]
    refine ⟨⟨rfl,by omega,by omega,?_⟩,by omega⟩;have:(i+1).toNat=i.toNat+1:=by omega
    rw [this,List.take_add_one,A];grind
 ·rename_i r;have r:¬i<(sl.len:Int):=by simpa using r
  have:i.toNat=a.length:=by omega
  grind
theorem TP {l:List az} {e:az} {i:Nat} (c:l.Pairwise mu) (d:∀x∈l.take i,mu x e) (b:∀x∈l.drop i,mu e x):(l.take i++e::l.drop i).Pairwise mu:=by have a:=c;rw [<-List.take_append_drop i l] at a;obtain ⟨a1,a2,a3⟩:=List.pairwise_append.1 a;refine List.pairwise_append.2 ⟨a1,List.pairwise_cons.2 ⟨b,a2⟩,λx f y g=> ?_⟩;grind
set_option maxHeartbeats 1000000 in
theorem YD {p:Addr} {g:List az} {F:List Nat} {id due:Int} {Q:Int->Hp->Prop} {h:Hp} (w:Wh h p g F) (hl:g.length<=4398046511104) (h0:id<0\/due<0->Q 1 h)
  (h1:0<=id->0<=due->∀L B u,Mv F h B u->Wh u p L B->(∀x,x∈L↔x=⟨due,id⟩\/(x∈g/\x.dY≠id))->L.length<=g.length+1->Q 0 u):Rg prog (some p) id due Q h:=by
 unfold Rg;refine aE ?_;by_cases d2:id<0\/due<0
 ·grind
 rw [if_neg (by simp;omega)];have hid:0<=id:=by omega
 have b6:0<=due:=by omega
 have core:∀(f:List az) (k:Hp),Mv F h F k->Wh k p f F->(∀x,x∈f↔(x∈g/\x.dY≠id))->f.length<=g.length->
   ah none (some p) λp0=>aN none aw k (Addr.add p0 0) λx=>
   bt prog QK [x.v,(.agg #[(.int .i64 due),(.int .i64 id)]),(.func (.func 195) #[] #[])] (af .i64) bH (λr1 r2 M=>
    ah none (some p) λp1=>aN none aw M (Addr.add p1 0) λx1=>
    bc [(.int .i64 due),(.int .i64 id)] (λa l=>
    (((aZ l (Addr.add p1 0) [x1.v])/\True)/\ae prog Td [x1.v,(.int .i64 r1),(.slice (some a) 1 1)] aw (λr3 D=>
    ah none (some p) λp2=>cX D (Addr.add p2 0) [r3.v] (λr=>
    ah none (some p) λp3=>aN none ig r (Addr.add p3 1) λx2=>
    u5 (.int .i64) x2 (.int .i64 id) (.agg #[(.int .i64 due),(.int .i64 id)]) (λh6=>Q 0 h6) r)) l)) M) k:=by
  intro f k mk wk b8 c9;obtain ⟨b,m,sl,G,T,rfl,rfl,H,O,k5,k6,k7,k8,k9,d4,b1⟩:=wk;refine aJ (pd H (sh:=aw) sl rfl ?_);have hE:(⟨due,id⟩:az)∉f:=λhm=>((b8 _).1 hm).2 rfl;refine zda (x:=sl) (target:=⟨due,id⟩) (cmp:=⟨Om, #[], #[]⟩) (VW (O.rw λ_=>rfl) (by omega) b1 λi _ M U E c1 b9=> ?_);refine aJ (pd (H.le U) (sh:=aw) sl rfl ?_);refine lT (xs:=[(⟨due,id⟩:az)]) (enc:=eE) (sz:=2) rfl (λ_=>rfl) λC l b5 l3 m3 o3=> ?_;have A:=Hp.le_trans U l3;refine ⟨⟨?_,trivial⟩,?_⟩
  ·obtain ⟨y,hy,c4⟩:=pd (H.le A) (sh:=aw) sl (j:=0) rfl (K:=λy=>y=sl) rfl;subst c4;exact hy
  have hG:∀c∈G,c≠C:=λc d e=>by have:=O.known c d;rw [e] at this;exact this (qj U b5)
  have o4:dF l 2 eE sl f G:=by refine O.mv (Mv.of_le [] A) λc _=>by simp
  have S:∃Y,eS l C Y:=by obtain ⟨_,_,d5⟩:=o3;grind
  obtain ⟨Y,S⟩:=S;have c0:∀(J:Sl->Hp->Prop),(∀z u B,dF u 2 eE z (f.take i++⟨due,id⟩::f.drop i) B->Mv G l B u->J z u)->zdq prog sl (i:Int) ⟨some ⟨C,0,none⟩,1,1⟩ J l:=by
   intro J hQ;obtain ⟨ti,e1,_⟩:=cD.info 216 vP rfl;exact ab1 (P:=prog) (h:=l) (sz:=2) (enc:=eE) (bytes:=16) (tS:=218) (tR:=4) (tE:=216) (zero:=[.int .i64 0,.int .i64 0]) (R:=λy K h=>aM prog zfz [y.v,.int .i64 1] K h) (i:=i) (Q:=J)
    (cD.cH 218 yF rfl) e1 (λ_=>rfl) (by omega) (λ_=>rfl) rfl (λn=>by
     induction n with
     | zero=>rfl
     | succ n ih=>exact ih) o4 (o3.rw λ_=>rfl) rfl S (λd=>hG C d rfl) E (by omega) hQ
  refine zie (s:=sl) (i:=(i:Int)) (v:=⟨some ⟨C,0,none⟩,1,1⟩) (c0 _ λz D t o5 I=> ?_);have c6:eS D b [sl.v,.map (some m)]:=(H.le A).mv I k6;have b4:b∉t:=λd=>by
   rcases I.from_ b d with q | q
   ·exact k6 q
   ·exact (H.le A).known q
  have b3:ia l m .i64 bn.enc T:=k5.mv (Mv.of_le [] A) (by simp);have c2:m∉t:=λd=>by
   rcases I.from_ m d with q | q
   ·exact k8 q
   ·exact b3.known q
  refine aJ ?_;refine qQ (b:=b) (off:=0) c6 (by simp) λr V c5=> ?_;have b2:eS r b [z.v,.map (some m)]:=by simpa using c5
  refine aJ (pd b2 (sh:=ig) (some m) rfl ?_);have c7:ia r m .i64 bn.enc T:=(b3.mv I k8).mv V (by grind);have o6:dF r 2 eE z (f.take i++⟨due,id⟩::f.drop i) t:=o5.mv V (λc d=>by grind);refine Pw (v:=(⟨due,id⟩:az)) c7 λo ho c8=> ?_;have N:Mv [m] r [m] (r.set m o):=Mv.set;have d1:∀x,x∈f.take i++(⟨due,id⟩:az)::f.drop i↔x=⟨due,id⟩\/x∈f:=by
   intro x;constructor
   ·grind
   ·rintro (rfl | hx)
    ·simp
    ·rw [<-List.take_append_drop i f] at hx;grind
  refine h1 hid b6 _ (b::m::t) _ ?_ ⟨b,m,z,t,lP id ⟨due,id⟩ T,rfl,rfl,b2.mv N (by simp;exact k7),o6.mv N (λc d=>by grind),c8,b4,k7,c2,OI id _ k9,?_,?_⟩ ?_ ?_
  ·have W:Mv (b::m::G) h (b::m::G) l:=mk.trans (Mv.of_le _ A);have X:Mv (b::m::G) l (b::m::t) D:=I.sub (λc d=>by simp [d]) λc d=>by grind
   have q3:Mv (b::m::t) D (b::m::t) r:=V.sub (λc d=>by grind) λc d=>.inr (.inl d);have q4:Mv (b::m::t) r (b::m::t) (r.set m o):=N.sub (λc d=>by grind) λc d=>.inr (.inl d);exact W.trans (X.trans (q3.trans q4))
  ·intro d3 Z;rw [BB];grind
  ·refine TP b1 c1 λx hx=>aaP (b9 x hx) λe=> ?_;grind
  ·grind
  ·simp;omega
 refine LW (E1 w hl (λhn=> ?_) λi e u E b7 m' w'=> ?_)
 ·exact core g h (Mv.refl _ _) w (λx=>⟨λhx=>⟨hx,hn x hx⟩,λhx=>hx.1⟩) (Nat.le_refl _)
 ·have d0:=(List.getElem?_eq_some_iff.1 E).1;refine core _ u m' w' (λx=> ?_) (by simp;omega);have hd:g.drop i=e::g.drop (i+1):=by obtain ⟨W,X⟩:=List.getElem?_eq_some_iff.1 E;rw [List.drop_eq_getElem_cons W,X]
  have c3:g=g.take i++e::g.drop (i+1):=by rw [<-hd,List.take_append_drop]
  have a8:=D1 w.sorted;rw [c3] at a8;have a9:=List.nodup_append.1 a8;constructor
  ·intro hx;have b0:x∈g:=by
    rcases List.mem_append.1 hx with hx | hx
    ·exact List.mem_of_mem_take hx
    ·exact List.mem_of_mem_drop hx
   refine ⟨b0,λZ=> ?_⟩;have:x=e:=w.ids b0 (List.mem_of_getElem? E) (Z.trans b7.symm);subst this;rcases List.mem_append.1 hx with hx | hx
   ·exact a9.2.2 x hx x (List.mem_cons_self ..) rfl
   ·exact (List.nodup_cons.1 a9.2.1).1 hx
  grind
abbrev H4 :Int->List Value:=λx=>bA ((af .i64).enc x)
set_option maxHeartbeats 1000000 in
theorem YF {p:Addr} {f:List az} {F:List Nat} {n:Int} {Q:Sl->Hp->Prop} {h:Hp} (w:Wh h p f F) (hl:f.length<=4398046511104)
  (O:∀out h' done rest G F',f=done++rest->(∀x∈done,x.due<=n)->(∀x r,rest=x::r->n<x.due)->dF h' 1 H4 out (done.map (·.dY)) G->Wh h' p rest F'->(∀c∈G,c∉F')->Mv F h (F'++G) h'->Q out h'):
  Rh prog (some p) n Q h:=by
 unfold Rh;refine aB.intro (λout k=>∃done rest G F',f=done++rest/\(∀x∈done,x.due<=n)/\dF k 1 H4 out (done.map (·.dY)) G/\Wh k p rest F'/\(∀c∈G,c∉F')/\Mv F h (F'++G) k) (λout _=>f.length-out.len)
  ⟨[],f,[],F,rfl,by simp,⟨rfl,Nat.le_refl _,.inl ⟨rfl,rfl,rfl⟩⟩,w,by simp,by simpa using Mv.refl F h⟩ ?_
 rintro out k ⟨done,rest,G,F',hsp,hdn,ho,wk,hdis,hm⟩;have b2:=ho.1;have s:=wk;obtain ⟨b,m,sl,a,b8,rfl,rfl,z,I,h5,h6⟩:=wk;have M:=I.1;refine aJ (pd z (sh:=aw) sl rfl ?_);have rs:Rw k 2 eE sl rest:=I.rw λ_=>rfl;refine ⟨_,λ_=>rfl,?_⟩;refine aaR z (sh:=aw) sl rfl ?_;refine rs.AB (λ_=>rfl) (by omega) (sh:=af .i64) (λx=>x.due) (j:=0) (λ_=>rfl) (0:Int) (λhc=>by simp at hc;omega) λ(y:Int) hy=> ?_;refine aE ?_;cases rest with
 | nil=>
  have T:sl.len=0:=by simpa using M
  rw [if_neg (by simp [T])];exact O out k done [] G _ hsp hdn (λx r e=>by cases e) ho s hdis hm
 | cons e r=>
  simp at M;have N:decide ((sl.len:Int)>0)=true:=by simp;omega
  obtain ⟨x,hx,b4⟩:=hy N;have Y:e=x:=by simpa using hx
  subst Y;subst b4;rw [N,Bool.true_and];by_cases B:e.due<=n
  ·rw [if_pos (by simpa using B)];refine aJ (pd z (sh:=aw) sl rfl ?_);refine rs.wv (λ_=>rfl) (by omega) (sh:=af .i64) (λx=>x.dY) (j:=1) (λ_=>rfl) (by omega) (by simp<;>omega) λx' b3=> ?_;have:e=x':=by simpa using b3
   subst this;have b7:done.length+(r.length+1)=f.length:=by rw [hsp];simp
   refine lT (xs:=[e.dY]) (enc:=H4) (sz:=1) rfl (λ_=>rfl) λS g U C m1 o1=> ?_;have b6:∀c∈G,c≠S:=λc hc t=>ho.known c hc (by rw [t];exact U);have b1:dF g 1 H4 out (done.map (·.dY)) G:=ho.mv (Mv.of_le [] C) (by simp);have E:Wh g ⟨b,0,none⟩ (e::r) (b::m::a):=by
    refine s.same λc hc=> ?_;cases l:k c with
    | none=>exact absurd l (s.known c hc)
    | some o=>exact C c o l
   refine xV b1 (o1.rw λ_=>rfl) (λ_=>rfl) (λ_=>rfl) rfl (by simp;omega) λl' v d R D=> ?_;have H:Wh v ⟨b,0,none⟩ (e::r) (b::m::a):=by
    refine E.same λc hc=> ?_;cases l:g c with
    | none=>exact absurd l (E.known c hc)
    | some o=>exact D.bO c o l λV=>hdis c V hc
   have K:∀c∈d,c∉b::m::a:=λc hc J=>by
    rcases D.from_ c hc with q | q
    ·exact hdis c q J
    ·exact E.known c J q
   refine LW (E1 H (by simp;omega) (λhn=>absurd rfl (hn e (List.mem_cons_self ..))) λi u A L X P w3=> ?_);have W:u=e:=H.ids (List.mem_of_getElem? L) (List.mem_cons_self ..) X;subst W;have Z:i=0:=by have b0:=D1 H.sorted;obtain ⟨a9,a8⟩:=List.getElem?_eq_some_iff.1 L;have:=(List.getElem_inj (i:=i) (j:=0) (h₀:=a9) (h₁:=by simp) b0).1 (by rw [a8];rfl);exact this
   subst Z;have b5:Wh A ⟨b,0,none⟩ r (b::m::a):=by simpa using w3
   have o3:dF A 1 H4 l' (done.map (·.dY)++ [u.dY]) d:=R.mv P K;refine ⟨⟨done++ [u],r,d,b::m::a,by rw [hsp];simp,λx hx=> ?_,by simpa using o3,b5,K,?_⟩,?_⟩
   ·rcases List.mem_append.1 hx with hx | hx
    ·exact hdn x hx
    ·rw [List.mem_singleton.1 hx];exact B
   ·have q1:Mv (b::m::a++G) k (b::m::a++G) g:=Mv.of_le _ C;have q2:Mv (b::m::a++G) g (b::m::a++d) v:=D.sub (λc hc=>List.mem_append_right _ hc) λc hc=>by
     rcases List.mem_append.1 hc with hc | hc
     ·exact .inr (.inl (List.mem_append_left _ hc))
     ·exact .inl hc
    have q3:Mv (b::m::a++d) v (b::m::a++d) A:=P.wide d;exact hm.trans (q1.trans (q2.trans q3))
   ·have:=R.1;simp at this b2;omega
  ·rw [if_neg (by simpa using B)];refine O out k done (e::r) G _ hsp hdn (λx r' t=> ?_) ho s hdis hm;cases t;omega
def Hm (p:Addr) (d:List az):eD where
 R k F:=∃B,Wh k p d B/\∀b,F b↔b∈B
 same:=λ⟨B,h,e⟩ f=>⟨B,h.same λc a=>f c ((e c).2 a),e⟩
 known:=λ⟨B,h,e⟩ c a=>h.known c ((e c).1 a)
structure WT (es:List az) (tm:Nat->Int) (n:Nat):Prop where
 low:∀i,0<=tm i
 CH:∀x∈es,0<=x.dY/\x.dY<n/\0<x.due/\tm x.dY.toNat=x.due
 has:∀i:Nat,0<tm i->(⟨tm i,(i:Int)⟩:az)∈es
def vp (p:Addr) (a:Nat->Int) (n:Nat):eD:=.some_ λes:List az=>(Hm p es).star (.fact (WT es a n))
section
variable {h0 k:Hp} {p:Addr} {es:List az} {g:Nat->Int} {n:Nat}
theorem Has.both {A B:eD} {F1 F2:Nat->Prop} (f:h0<=k) (a:A.R k F1) (b:B.R k F2) (d:∀c,F1 c->¬F2 c) (f1:∀c,F1 c->h0 c=none) (f2:∀c,F2 c->h0 c=none):Has h0 (A.star B) k:=
 ⟨f,λc=>F1 c\/F2 c,⟨F1,F2,λ_=>Iff.rfl,d,a,b⟩,λc e=>e.elim (f1 c) (f2 c)⟩
theorem slR {i:Type} {sz:Nat} {enc:i->List Value} {l:Sl} {f:List i} {F:List Nat} (o:dF k sz enc l f F):(ff sz enc l f).R k λb=>b∈F:=by
 obtain ⟨a,d,q⟩:=o;rcases q with ⟨e,m,rfl⟩ | ⟨b,j,e,rfl,hb,s,r⟩
 ·exact ⟨a,d,.inl ⟨e,m,λ_ h=>by cases h⟩⟩
 ·exact ⟨a,d,.inr ⟨b,0,j,e,λc=>List.mem_singleton,hb,by omega,by simpa using r⟩⟩
theorem Has.QJ (o:Has h0 (Hm p es) k):∃B,Wh k p es B/\∀b∈B,h0 b=none:=by obtain ⟨l,F,⟨B,w,e⟩,f⟩:=o;grind
theorem Has.DA {B a:List Nat} {c:Hp} {d:List az} (f:h0<=k) (h:∀b∈B,h0 b=none) (m:Mv B k a c) (w:Wh c p d a):Has h0 (Hm p d) c:=by
 refine ⟨λb o e=>m.bO b o (f b o e) λhb=> ?_,λb=>b∈a,⟨a,w,λb=>Iff.rfl⟩,λb hb=> ?_⟩
 ·grind
 ·rcases m.from_ b hb with h1 | h1
  ·exact h b h1
  ·cases e:h0 b with
   | none=>rfl
   | some o=>rw [f b o e] at h1;cases h1
theorem Has.su (o:Has h0 (vp p g n) k):∃es,WT es g n/\Has h0 (Hm p es) k:=by obtain ⟨es,o⟩:=Has.ex.1 o;obtain ⟨a,b⟩:=o.kS;grind
theorem Has.pj {k:Hp} (t:WT es g n) (o:Has h0 (Hm p es) k):Has h0 (vp p g n) k:=Has.ex.2 ⟨es,o.fV t⟩
theorem EH {B:List Nat} (t:WT es g n) (w:Wh k p es B):es.length<=n:=by
 have h:(es.map λx=>x.dY.toNat).Nodup:=by
  have m:=w.sorted;have hid:=λx d y f=> @Wh.ids _ _ _ _ w x y d f;clear w;have hp:=t.CH;have j:es.Pairwise λa b=>a.dY≠b.dY:=by refine m.imp_of_mem λ{a b} c hb i e=> ?_;have:=hid a c b hb e;subst this;unfold mu at i;omega
  refine List.pairwise_map.2 (j.imp_of_mem λ{a b} c hb l e=>l ?_);have:=hp a c;have:=hp b hb;omega
 have:=RL n (es.map λx=>x.dY.toNat) h λx d=>by obtain ⟨y,f,rfl⟩:=List.mem_map.1 d;have:=t.CH y f;omega
 grind
theorem YH {n:Nat} {Q:Option Addr->Hp->Prop} (d:∀p a,k<=a->Has k (vp p (λ_=>0) n) a->Q (some p) a):RU prog Q k:=by refine Yx λp F a l c w=>d p a l (Has.pj (es:=[]) ⟨λ_=>Int.le_refl _,by simp,λi h=>absurd h (by decide)⟩ ⟨l,λb=>b∈F,⟨F,w,λb=>Iff.rfl⟩,c⟩)
theorem Le {i:Nat} {Q:Int->Bool->Hp->Prop} (o:Has h0 (vp p g n) k) (f:∀b,Q (g i) b k):Rf prog (some p) (i:Int) Q k:=by
 obtain ⟨es,t,o⟩:=o.su;obtain ⟨B,w,d⟩:=o.QJ;refine Yz w (λc=> ?_) λe a hid=> ?_
 ·have:g i=0:=by
   have:=t.low i;by_cases h:0<g i
   ·exact absurd rfl (c _ (t.has i h))
   ·omega
  grind
 ·have:=(t.CH e a).2.2.2;grind
theorem E2 {i:Nat} {Q:Bool->Hp->Prop} (o:Has h0 (vp p g n) k) (G:n<=1000000) (s:∀b c,Has h0 (vp p (de g i 0) n) c->Q b c):Q6 prog (some p) (i:Int) Q k:=by
 obtain ⟨es,t,o⟩:=o.su;obtain ⟨B,w,z⟩:=o.QJ;have F:=EH t w;refine E1 w (by omega) (λA=> ?_) λj e c f hid m E=> ?_
 ·refine s false k (Has.pj ?_ o);have y:g i=0:=by
   have:=t.low i;by_cases h:0<g i
   ·exact absurd rfl (A _ (t.has i h))
   ·omega
  have:de g i 0=g:=by rw [<-y];exact BV
  rw [this];exact t
 ·refine s true c (Has.pj ⟨λa=> ?_,λx C=> ?_,λa d=> ?_⟩ (Has.DA o.le z m E))
  ·by_cases h:a=i
   ·subst h;rw [mz];omega
   ·rw [mn h];exact t.low a
  ·have v:x∈es:=by grind
   obtain ⟨a1,a2,a3,a4⟩:=t.CH x v;refine ⟨a1,a2,a3,?_⟩;have r:=w.sorted;have q:=(List.getElem?_eq_some_iff.1 f);obtain ⟨q,l⟩:=q;have H:x.dY≠(i:Int):=by
    intro ex;have D:x=e:=w.ids v (List.mem_of_getElem? f) (by rw [ex,hid]);subst D;have u:es=es.take j++x::es.drop (j+1):=by rw [<-l,List.getElem_cons_drop,List.take_append_drop]
    rw [u,List.pairwise_append] at r;rcases List.mem_append.1 C with h | h
    ·have:=r.2.2 x h x (List.mem_cons_self ..);unfold mu at this;omega
    ·have:=(List.pairwise_cons.1 r.2.1).1 x h;unfold mu at this;omega
   rw [mn (by omega)];exact a4
  ·by_cases h:a=i
   ·subst h;rw [mz] at d;omega
   ·rw [mn h] at d ⊢;have:=t.has a d;obtain ⟨q,l⟩:=List.getElem?_eq_some_iff.1 f;have u:es=es.take j++e::es.drop (j+1):=by rw [<-l,List.getElem_cons_drop,List.take_append_drop]
    grind
theorem Gl {i:Nat} {due:Int} {Q:Int->Hp->Prop} (o:Has h0 (vp p g n) k) (A:n<=1000000) (y:i<n) (f:0<due) (l:∀b,Has h0 (vp p (de g i due) n) b->Q 0 b):Rg prog (some p) (i:Int) due Q k:=by
 obtain ⟨es,t,o⟩:=o.su;obtain ⟨B,w,j⟩:=o.QJ;have z:=EH t w;refine YD w (by omega) (λh=>by omega) λ_ _ u s b m r d _=> ?_;refine l b (Has.pj ⟨λa=> ?_,λx q=> ?_,λa c=> ?_⟩ (Has.DA o.le j m r))
 ·by_cases h:a=i
  ·subst h;rw [mz];omega
  ·rw [mn h];exact t.low a
 ·rcases (d x).1 q with rfl | ⟨e,v⟩
  ·refine ⟨by omega,by grind,f,?_⟩;show de g i due ((i:Int)).toNat=due;rw [show ((i:Int)).toNat=i by omega];exact mz
  ·obtain ⟨a1,a2,a3,a4⟩:=t.CH x e;refine ⟨a1,a2,a3,?_⟩;rw [mn (by omega)];exact a4
 ·refine (d _).2 ?_;by_cases h:a=i
  ·subst h;left;rw [mz]
  ·right;rw [mn h] at c ⊢;exact ⟨t.has a c,by grind⟩
def pW (g:Nat->Int) (a:Int):Nat->Int:=λi=>if 0<g i/\g i<=a then 0 else g i
theorem YJ {c:Int} {Q:Sl->Hp->Prop} (o:Has h0 (vp p g n) k) (N:n<=1000000)
  (H:∀s j (ids:List Int),(∀x∈ids,0<=x/\x<n)->ids.Nodup->(∀i:Nat,(i:Int)∈ids↔0<g i/\g i<=c)->Has h0 ((vp p (pW g c) n).star (ff 1 fX s ids)) j->Q s j):Rh prog (some p) c Q k:=by
 obtain ⟨es,t,o⟩:=o.su;obtain ⟨B,w,v⟩:=o.QJ;have M:=EH t w;refine YF w (by omega) λout j done rest G l hsp hd hr ho w' hdis m=> ?_;have u:=w.sorted;have E:=λx hx y f=> @Wh.ids _ _ _ _ w x y hx f;have O:es.Pairwise λa b=>a.dY≠b.dY:=by refine u.imp_of_mem λ{a b} d hb F e=> ?_;have:=E a d b hb e;subst this;unfold mu at F;omega
 have P:∀x∈rest,c<x.due:=by
  cases rest with
  | nil=>simp
  | cons y r=>
   have h1:=hr y r rfl;intro x hx;rcases List.mem_cons.1 hx with rfl | hx
   ·exact h1
   ·rw [hsp,List.pairwise_append] at u;have:=(List.pairwise_cons.1 u.2.1).1 x hx;unfold mu at this;omega
 have D:∀x∈es,(x∈done↔x.due<=c):=by grind
 have A:∀x∈done,x∈es:=λx hx=>by grind
 have I:∀x∈rest,x∈es:=λx hx=>by grind
 refine H out j (done.map (·.dY)) (λx hx=> ?_) ?_ (λi=>⟨λq=> ?_,λq=> ?_⟩) ?_
 ·obtain ⟨y,f,rfl⟩:=List.mem_map.1 hx;have:=t.CH y (A y f);omega
 ·grind
 ·obtain ⟨y,f,e⟩:=List.mem_map.1 q;obtain ⟨_,_,a3,a4⟩:=t.CH y (A y f);grind
 ·exact List.mem_map.2 ⟨_,(D _ (t.has i q.1)).2 q.2,rfl⟩
 ·have J:Has h0 (Hm p rest) j:=by refine Has.DA o.le v ⟨λb L e hb=>m.bO b L e hb,λb hb=>m.from_ b (List.mem_append_left _ hb)⟩ w'
  have K:WT rest (pW g c) n:=by
   refine ⟨λa=> ?_,λx hx=> ?_,λa d=> ?_⟩
   ·unfold pW;split
    ·omega
    ·exact t.low a
   ·obtain ⟨a1,a2,a3,a4⟩:=t.CH x (I x hx);refine ⟨a1,a2,a3,?_⟩;unfold pW;grind
   ·unfold pW at d ⊢;by_cases h:0<g a/\g a<=c
    ·omega
    ·rw [if_neg h] at d ⊢;have h1:=t.has a d;grind
  have z:∀b∈l++G,h0 b=none:=λb hb=>by
   rcases m.from_ b hb with h1 | h1
   ·exact v b h1
   ·cases e:h0 b with
    | none=>rfl
    | some x=>rw [o.le b x e] at h1;cases h1
  refine Has.both J.le (F1:=λb=>b∈l) (F2:=λb=>b∈G) ⟨rest,λb=>b∈l,λ_=>False,λb=>by simp,λb _ h=>h,⟨l,w',λb=>Iff.rfl⟩,K,λ_ h=>h⟩ (slR ho) (λb h1 C=>hdis b C h1) (λb hb=>z b (List.mem_append_left _ hb)) λb hb=>z b (List.mem_append_right _ hb)
end
def ie (c:br):List Int:=[c.cl,c.cm,c.cn,c.cp,c.cq,c.cv,c.cw,c.cC]
def hH (c:br):Core:=⟨c.PC,ie c⟩
def vn (w:fe):Want:=⟨w.Kind,w.To,w.dt⟩
def rowOf (c:br):il:=⟨c.cl,c.cm,c.cn,c.cp,c.cq,c.cv,c.cw,c.cC⟩
def Iu (c:br):Nat->Int->br
 | 0,v=>{c with cl:=v}
 | 1,v=>{c with cm:=v}
 | 2,v=>{c with cn:=v}
 | 3,v=>{c with cp:=v}
 | 4,v=>{c with cq:=v}
 | 5,v=>{c with cv:=v}
 | 6,v=>{c with cw:=v}
 | 7,v=>{c with cC:=v}
 | _,_=>c
section
variable {h0 k:Hp} {p:Addr} {c:br}
theorem V1 {n:Nat} {v:Int} (a:n<8):hH (Iu c n v)=⟨c.PC,(ie c).set n v⟩:=by
 match n,a with
 | 0,_=>rfl
 | 1,_=>rfl
 | 2,_=>rfl
 | 3,_=>rfl
 | 4,_=>rfl
 | 5,_=>rfl
 | 6,_=>rfl
 | 7,_=>rfl
theorem qn {i:Int} {K:Int->Prop} (h:0<=i/\i<8) (a:K (fQ (ie c) i)):
  ((0:Int)<=i/\i<(8:Int))/\∃x:Int,((List.get?Internal [(.int .i64 (rowOf c).a0),(.int .i64 (rowOf c).a1),(.int .i64 (rowOf c).a2),(.int .i64 (rowOf c).a3),(.int .i64 (rowOf c).a4),(.int .i64 (rowOf c).a5),(.int .i64 (rowOf c).a6),(.int .i64 (rowOf c).a7)] (0+((Int.toNat i)*1)))=(some (Value.int .i64 x))/\K x):=by
 refine ⟨h,_,?_,a⟩;unfold fQ;have:i.toNat<8:=by omega
 generalize i.toNat=n at*
 match n,this with
 | 0,_=>rfl
 | 1,_=>rfl
 | 2,_=>rfl
 | 3,_=>rfl
 | 4,_=>rfl
 | 5,_=>rfl
 | 6,_=>rfl
 | 7,_=>rfl
theorem ua {a v:Int} {Q:Hp->Prop} (o:Has h0 (dZ fM p c) k) (f:∀e b,Has h0 (dZ fM p e) b->hH e=⟨c.PC,kf (ie c) a v⟩->Q b):zvu prog (some p) a v Q k:=by
 unfold zvu;refine aE ?_;by_cases h:0<=a/\a<8
 ·rw [if_pos (by simp [h.1,h.2])];refine aJ ⟨h,?_⟩;rw [vV,Nat.mul_one];have d:a.toNat<8:=by omega
  refine o.st (Iu c a.toNat v) (by show 1+a.toNat+1<=9;omega) ?_ λb g=>f _ b g ?_
  ·generalize a.toNat=n at d
   match n,d with
   | 0,_=>rfl
   | 1,_=>rfl
   | 2,_=>rfl
   | 3,_=>rfl
   | 4,_=>rfl
   | 5,_=>rfl
   | 6,_=>rfl
   | 7,_=>rfl
  ·rw [V1 d];unfold kf;rw [if_pos h]
 ·rw [if_neg (by simp;omega)];refine f c k o ?_;unfold kf;rw [if_neg h];rfl
theorem G0 {K:Addr->Hp->Prop} (b:∀p a,k<=a->Has k (dZ fM p c) a->K p a):bc [(.int .i64 c.PC),(.int .i64 c.cl),(.int .i64 c.cm),(.int .i64 c.cn),(.int .i64 c.cp),(.int .i64 c.cq),(.int .i64 c.cv),(.int .i64 c.cw),(.int .i64 c.cC)] K k:=vk (sh:=fM) c rfl b
theorem uZ {Q:br->Hp->Prop} (hp:0<=c.PC/\c.PC<4611686018427387904) (b:∀a,hH a=gu (hH c)->Q a k):EM prog c Q k:=by unfold EM;refine b _ ?_;unfold hH gu ie;dsimp only;rw [aV]
variable {l:Sl} {xs:List aS}
theorem EK {Q:aS->Bool->Hp->Prop} (r:nG k l xs) (a:∀x:aS,iu (xs.map bu) c.PC=some (bu x)->0<=c.PC->c.PC<(xs.length:Int)->Q x true k) (b:iu (xs.map bu) c.PC=none->Q ⟨0,0,0,0,0⟩ false k):F7 prog c l Q k:=by
 unfold F7;refine aE ?_;have d:=r.1;unfold iu at a b;by_cases h:c.PC<0\/(xs.length:Int)<=c.PC
 ·grind
 ·rw [if_neg (by simp;omega)];refine mE r λx e=>a x ?_ (by omega) (by omega);grind
theorem aaS {x:df} {n m:Int} (h:(ja x n m).1=0):(0<=x.a/\x.a<8)/\(0<=x.b/\x.b<8)/\(0<=x.c/\x.c<8):=by
 have key:∀ {b:Bool} {v:Int},du b v=0->0<=v/\v<8:=by
  intro b v h;unfold du at h;by_cases d:b=false/\v≠0
  ·rw [if_pos d] at h;cases h
  ·rw [if_neg d] at h;by_cases hp:v<0\/8<=v
   ·rw [if_pos hp] at h;cases h
   ·omega
 obtain ⟨_,a,b,c,_⟩:=Bm h;grind
theorem V3 {x:aS} {Q:fe->Bool->Bool->Hp->Prop} (q:0<=x.A/\x.A<8) (hb:0<=x.B/\x.B<8) (t:0<=x.C/\x.C<8) (b:mb (bu x) (ie c)=none->Q ⟨0,0,0⟩ false false k)
  (a:∀w st,mb (bu x) (ie c)=some (vn w,st)->Q w st true k):Em prog x (rowOf c) Q k:=by
 have case:∀n:Int,(x.Op==n)=decide (x.Op=n):=λn=>by by_cases e:x.Op=n<;>simp [e]
 unfold Em;unfold mb at b a;simp only [case,decide_eq_true_eq];have s:(bu x).op=x.Op:=rfl;rw [s] at b a;by_cases d:x.Op=0
 ·rw [if_pos d];rw [if_pos d] at a;exact a ⟨1,0,0⟩ true rfl
 rw [if_neg d];rw [if_neg d] at b a;by_cases f:x.Op=24
 ·rw [if_pos f];rw [if_pos f] at a;exact qn hb (qn t (a ⟨2,_,_⟩ true rfl))
 rw [if_neg f];rw [if_neg f] at b a;by_cases g:x.Op=25
 ·rw [if_pos g];rw [if_pos g] at a;exact a ⟨3,0,0⟩ true rfl
 rw [if_neg g];rw [if_neg g] at b a;by_cases h:x.Op=26
 ·rw [if_pos h];rw [if_pos h] at a;exact a ⟨4,0,0⟩ true rfl
 rw [if_neg h];rw [if_neg h] at b a;by_cases i:x.Op=27
 ·rw [if_pos i];rw [if_pos i] at a;exact qn q (a ⟨5,0,_⟩ false rfl)
 rw [if_neg i];rw [if_neg i] at b a;by_cases j:x.Op=28
 ·rw [if_pos j];rw [if_pos j] at a;exact qn q (a ⟨6,0,_⟩ true rfl)
 rw [if_neg j];rw [if_neg j] at b a;by_cases m:x.Op=29
 ·rw [if_pos m];rw [if_pos m] at a;exact a ⟨7,x.jM,0⟩ true rfl
 rw [if_neg m];rw [if_neg m] at b a;by_cases o:x.Op=30
 ·rw [if_pos o];rw [if_pos o] at a;exact a ⟨8,x.jM,0⟩ false rfl
 rw [if_neg o];rw [if_neg o] at b a;by_cases r:x.Op=31
 ·rw [if_pos r];rw [if_pos r] at a;exact qn q (a ⟨9,0,_⟩ false rfl)
 grind
theorem YK {v:Int} {Q:br->Hp->Prop} (r:nG k l xs) (hp:0<=c.PC/\c.PC<4611686018427387904) (j:∀b g,k<=g->hH b=kz (xs.map bu) (hH c) v->Q b g):EU prog c l v Q k:=by
 unfold EU;refine G0 λp w u o=> ?_;unfold kz at j;refine da.intro (λg=>∃b,Has k (dZ fM p b) g/\gu (hH b)=(match iu (xs.map bu) (hH c).pc with
  | some n=>⟨(hH c).pc+1,kf (hH c).aP n.a v⟩
  | none=>gu (hH c))) ?_ ?_
 ·refine o.xu (shf:=fM) c rfl ?_;refine Es (EK (r.mono u) (λx f _ _=> ?_) λf=> ?_)
  ·rw [if_pos rfl];refine CX (ua o λb m h e=>⟨b,h,?_⟩);have f:iu (xs.map bu) (hH c).pc=some (bu x):=f;rw [f,e];rfl
  ·rw [if_neg (by decide)];have f:iu (xs.map bu) (hH c).pc=none:=f;refine ⟨c,o,?_⟩;rw [f]
 ·rintro m ⟨b,h,e⟩;refine h.xu (shf:=fM) b rfl ?_;have t:b.PC=c.PC:=by
   have d:(gu (hH b)).pc=b.PC+1:=rfl;rw [e] at d;cases i:iu (xs.map bu) (hH c).pc with
   | none=>rw [i] at d;have d:c.PC+1=b.PC+1:=d;omega
   | some n=>rw [i] at d;have d:c.PC+1=b.PC+1:=d;omega
  exact EL (uZ (by rw [t];exact hp) λq s=>j q m h.le (s.trans e))
theorem Gm {v from_:Int} {Q:br->Hp->Prop} (r:nG k l xs) (hp:0<=c.PC/\c.PC<4611686018427387904) (m:∀d h,k<=h->hH d=gw (xs.map bu) (hH c) v from_->Q d h):ES prog c l v from_ Q k:=by
 unfold ES;refine G0 λp E C o=> ?_;unfold gw at m;refine da.intro (λh=>∃d,Has k (dZ fM p d) h/\gu (hH d)=(match iu (xs.map bu) (hH c).pc with
  | some n=>⟨(hH c).pc+1,kf (kf (hH c).aP n.a v) n.b from_⟩
  | none=>gu (hH c))) ?_ ?_
 ·refine o.xu (shf:=fM) c rfl ?_;refine Es (EK (r.mono C) (λx g _ _=> ?_) λg=> ?_)
  ·rw [if_pos rfl];refine CX (ua o λd q i e=> ?_);refine CX (ua i λt F D w=>⟨t,D,?_⟩);have g:iu (xs.map bu) (hH c).pc=some (bu x):=g;have y:d.PC=c.PC:=congrArg Core.pc e;have z:ie d=kf (ie c) x.A v:=congrArg Core.aP e;rw [g,w,y,z];rfl
  ·rw [if_neg (by decide)];have g:iu (xs.map bu) (hH c).pc=none:=g;refine ⟨c,o,?_⟩;rw [g]
 ·rintro q ⟨d,i,e⟩;refine i.xu (shf:=fM) d rfl ?_;have B:d.PC=c.PC:=by
   have f:(gu (hH d)).pc=d.PC+1:=rfl;rw [e] at f;cases j:iu (xs.map bu) (hH c).pc with
   | none=>rw [j] at f;have f:c.PC+1=d.PC+1:=f;omega
   | some n=>rw [j] at f;have f:c.PC+1=d.PC+1:=f;omega
  exact EL (uZ (by rw [B];exact hp) λs u=>m s q i.le (u.trans e))
end
section
variable {h0 k:Hp} {p:Addr} {c:br} {l:Sl} {xs:List aS}
theorem zf {a:br} {r:List Int} (e:hH a=⟨c.PC,r⟩):gu (hH a)=⟨c.PC+1,r⟩:=by rw [e];rfl
theorem YL {tick self:Int} {Q:br->fe->Hp->Prop} (r:nG k l xs) (Y:xs.length<1073741824)
  (b:∀d w u,k<=u->hH d=(ij fF (xs.map bu) (hH c) tick self).1->vn w=(ij fF (xs.map bu) (hH c) tick self).2->Q d w u):EN prog c l tick self Q k:=by
 unfold EN;refine G0 λp Z L o=> ?_;refine o.xu (shf:=fM) c rfl ?_;have X:=r.1;unfold ij at b;refine Es (EK (r.mono L) (λx m i0 i1=> ?_) λm=> ?_)
 case _=>
  refine ⟨λ_=> ?_,λe=>(by cases e)⟩;refine zuj (Gf λW P=> ?_);have m:iu (xs.map bu) (hH c).pc=some (bu x):=m;rw [m] at b;dsimp only at b;have S:((xs.map bu).length:Int)=(l.len:Int):=by grind
  rw [S] at b;refine aE ?_;have h:=o.grow P;by_cases q:(ja (bu x) (l.len:Int) 8).1≠0
  ·rw [if_pos q] at b;rw [if_pos (by simp [q])];refine h.xu (shf:=fM) c rfl ?_;exact b c ⟨1,0,0⟩ _ (Hp.le_trans L P) rfl rfl
  ·rw [if_neg q] at b;rw [if_neg (by simpa using q)];have q:(ja (bu x) (l.len:Int) 8).1=0:=by simpa using q
   obtain ⟨y,hb,t⟩:=aaS q;have y:0<=x.A/\x.A<8:=y;have hb:0<=x.B/\x.B<8:=hb;have t:0<=x.C/\x.C<8:=t;have O:0<=c.PC/\c.PC<4611686018427387904:=by omega
   refine h.ld (shf:=Af) (rowOf c) (off:=1) rfl ?_;refine ZH (V3 y hb t (λJ=> ?_) λw st K=> ?_)
   ·rw [if_neg (by decide)];refine h.ld (shf:=Af) (rowOf c) (off:=1) rfl ?_;have J:mb (bu x) (hH c).aP=none:=J;rw [J] at b;dsimp only at b;unfold Cy at b;have R:(bu x).op=x.Op:=rfl;rw [R] at b;have case:∀n:Int,(x.Op==n)=decide (x.Op=n):=λn=>by grind
    simp only [case,decide_eq_true_eq];refine kL.intro (λ_ _ u=>∃d,Has k (dZ fM p d) u/\d.PC=c.PC/\∀g,hH g=gu (hH d)->Q g ⟨0,0,0⟩ u) ?_ ?_
    ·by_cases z:x.Op=1
     ·rw [if_pos z];rw [if_pos z] at b;refine CX (ua h λd s f e=>⟨d,f,congrArg Core.pc e,λg i=>b g _ _ f.le (i.trans (zf e)) rfl⟩)
     rw [if_neg z];rw [if_neg z] at b;by_cases D:x.Op=2
     ·rw [if_pos D];rw [if_pos D] at b;refine qn hb ?_;refine CX (ua h λd s f e=>⟨d,f,congrArg Core.pc e,λg i=>b g _ _ f.le (i.trans (zf e)) rfl⟩)
     rw [if_neg D];rw [if_neg D] at b;by_cases E:x.Op=32
     ·rw [if_pos E];rw [if_pos E] at b;refine CX (ua h λd s f e=>⟨d,f,congrArg Core.pc e,λg i=>b g _ _ f.le (i.trans (zf e)) rfl⟩)
     rw [if_neg E];rw [if_neg E] at b;by_cases F:x.Op=33
     ·rw [if_pos F];rw [if_pos F] at b;refine CX (ua h λd s f e=>⟨d,f,congrArg Core.pc e,λg i=>b g _ _ f.le (i.trans (zf e)) rfl⟩)
     rw [if_neg F];rw [if_neg F] at b;by_cases G:x.Op=22
     ·rw [if_pos G];rw [if_pos G] at b;refine h.st {c with PC:=x.jM} (by show 0+1<=9;omega) rfl λs f=> ?_;refine f.xu (shf:=fM) {c with PC:=x.jM} rfl ?_;exact b _ _ _ f.le rfl rfl
     rw [if_neg G];rw [if_neg G] at b;by_cases H:x.Op=23
     ·rw [if_pos H];rw [if_pos H] at b;refine qn y ?_;by_cases j:fQ (ie c) x.A=0
      ·rw [if_pos (by simp [j])];have j:fQ (hH c).aP (bu x).a=0:=j;rw [if_pos j] at b;exact ⟨c,h,rfl,λg i=>b g _ _ h.le i rfl⟩
      ·rw [if_neg (by simp [j])];have j:¬fQ (hH c).aP (bu x).a=0:=j;rw [if_neg j] at b;refine h.st {c with PC:=x.jM} (by show 0+1<=9;omega) rfl λs f=> ?_;refine f.xu (shf:=fM) {c with PC:=x.jM} rfl ?_;exact b _ _ _ f.le rfl rfl
     rw [if_neg H];rw [if_neg H] at b;refine qn hb (qn t ?_);have I:fF x.Op (fQ (ie c) x.B) (fQ (ie c) x.C)=if 3<=x.Op/\x.Op<=14 then xU x.Op (fQ (ie c) x.B) (fQ (ie c) x.C) else wx x.Op (fQ (ie c) x.B) (fQ (ie c) x.C):=rfl
     have fin:∀v,v=fF x.Op (fQ (ie c) x.B) (fQ (ie c) x.C)->aM prog yU [(.pointer (some p)),(.int .i64 x.A),(.int .i64 v)] (λN=>∃d,Has k (dZ fM p d) N/\d.PC=c.PC/\∀g,hH g=gu (hH d)->Q g ⟨0,0,0⟩ N) W:=by intro v hv;subst hv;exact CX (ua h λd s f e=>⟨d,f,congrArg Core.pc e,λg i=>b g _ _ f.le (i.trans (zf e)) rfl⟩)
     refine adD (XG (λM=> ?_) λM=> ?_)
     ·refine dj.direct ?_;grind
     ·refine dj.direct ?_;rw [if_pos (by decide)];refine qn hb (qn t ?_);rw [if_neg M] at I;refine adE (XJ (λU=>fin _ I.symm) λU=>fin _ ?_);rw [I];unfold wx;omega
    ·rintro _ _ s ⟨d,f,T,V⟩;refine f.xu (shf:=fM) d rfl ?_;exact EL (uZ (by rw [T];exact O) λg i=>V g i)
   ·rw [if_pos rfl];have K:mb (bu x) (hH c).aP=some (vn w,st):=K;rw [K] at b;dsimp only at b;cases st with
    | true=>rw [if_pos rfl];refine h.xu (shf:=fM) c rfl ?_;exact ⟨⟨trivial,trivial⟩,b c w _ h.le rfl rfl⟩
    | false=>rw [if_neg (by decide)];refine h.xu (shf:=fM) c rfl ?_;exact EL (uZ O λg i=>⟨⟨trivial,trivial⟩,⟨trivial,trivial⟩,b g w _ h.le i rfl⟩)
 case _=>refine ⟨λe=>(by cases e),λ_=>⟨0,?_⟩⟩;refine aE ?_;rw [if_pos (by decide)];have m:iu (xs.map bu) (hH c).pc=none:=m;rw [m] at b;refine o.xu (shf:=fM) c rfl ?_;exact b c ⟨1,0,0⟩ _ L rfl rfl
end
structure MK where
 c:aL
 x:bf
 t:Addr
 sl:Addr
 pt:List Addr
 pr:List Addr
 own:Nat->Sl
 code:Nat->Sl
 ins:Nat->List aS
def Dj (x:bf):an:=⟨x.dq,x.fw,x.iV,x.gC,x.fR,x.iL,x.bW⟩
structure eh (h:Hp) (K:MK):Prop where
 gV:(fa K.c).1=0
 Ds:∀l∈K.c.labels,qW l
 cfg:eT h (Dj K.x) K.c
 t1:K.x.table=some K.t
 t2:uy h K.t K.c.labels
 s1:K.x.vL=some K.sl
 s2:∃(s:Sl) (n:Int),aZ h K.sl [s.v,.int .i64 n]/\Is h s K.c.table
 QH:K.pt.length=nP K.c
 pt:Rs h al 1 K.x.parts (K.pt.map some)
 QG:K.pr.length=nQ K.c
 pr:Rs h al 1 K.x.procs (K.pr.map some)
 own:∀i,i<nP K.c->Is h (K.own i) ((fo K.c i).map λ(q:Nat)=>(q:Int))
 code:∀p,p<nQ K.c->nG h (K.code p) (K.ins p)/\(K.ins p).map bu=jq K.c p
 owned:∀p,p<nQ K.c->aG K.c p<nP K.c
abbrev H3 :qS->List Value:=λe=> [.int .i64 e.tick,.int .i64 e.proc,.int .i64 e.value]
def nY (K:MK) (i:Nat) (x:bw) (lp a:Addr) (y:cJ):Prop:=x.procs=K.own i/\x.ai=y.ai/\x.lost=y.lost/\x.forbidden=y.forbidden/\x.ag=some lp/\x.eM=some a
def q6 (K:MK) (i:Nat) (x:bw) (lp b:Addr) (y:cJ) (a:Nat->Int):eD:=
 (dZ Ad (K.pt.getD i a0) x).star ((ff 3 H3 x.log y.log).star ((oH lp y.ax y.au).star (vp b a (2*nQ K.c))))
def qZ (K:MK) (i:Nat) (y:cJ) (b:Nat->Int):eD:=.some_ λx:bw=>.some_ λlp:Addr=>.some_ λa:Addr=>(q6 K i x lp a y b).star (.fact (nY K i x lp a y))
def fb (z:aW):br:=⟨z.kO,z.gF,z.gG,z.gH,z.gI,z.gJ,z.gK,z.gL,z.gM⟩
def gi (K:MK) (p:Nat) (z:aW) (q:Addr) (y:aj):Prop:=z.dY=(p:Int)/\z.part=(aG K.c p:Int)/\z.code=K.code p/\z.state=y.state/\hH (fb z)=y.core/\z.bB=y.bB/\z.post=some q
def vw (K:MK) (p:Nat) (z:aW) (q:Addr) (y:aj):eD:=(dZ bK (K.pr.getD p a0) z).star (eJ q K.c.lane y.ak y.ai)
def re (K:MK) (p:Nat) (y:aj):eD:=.some_ λz:aW=>.some_ λq:Addr=>(vw K p z q y).star (.fact (gi K p z q y))
def tT (x:bf) (t:Int):bf:=⟨x.dq,x.fw,x.iV,x.gC,x.fR,x.iL,x.bW,x.table,x.vL,t,x.parts,x.procs⟩
def aO (K:MK) (pm:Addr) (s:MS) (a:Nat->Nat->Int):eD:=
 (dZ Mh pm (tT K.x s.tick)).star ((eD.first (λi=>qZ K i (s.part i) (a i)) (nP K.c)).star (eD.first (λp=>re K p (s.proc p)) (nQ K.c)))
section
variable {h0 h1 k:Hp} {K:MK} {pm:Addr} {s:MS} {d:Nat->Nat->Int}
theorem eh.mono (m:eh h0 K) (c:h0<=h1):eh h1 K where
 gV:=m.gV
 Ds:=m.Ds
 cfg:=m.cfg.mono c
 t1:=m.t1
 t2:=m.t2.mono c
 s1:=m.s1
 s2:=by obtain ⟨s,n,a,b⟩:=m.s2;exact ⟨s,n,nE c a,b.mono c⟩
 QH:=m.QH
 pt:=m.pt.mono c
 QG:=m.QG
 pr:=m.pr.mono c
 own:=λi e=>(m.own i e).mono c
 code:=λp hp=>⟨(m.code p hp).1.mono c,(m.code p hp).2⟩
 owned:=m.owned
theorem Has.CP {p:Nat} (o:Has h0 (aO K pm s d) k) (hp:p<nQ K.c):∃h1 z q,h0<=h1/\gi K p z q (s.proc p)/\Has h1 (vw K p z q (s.proc p)) k/\
  ∀g a b,gi K p g q a->Has h1 (vw K p g q a) b->Has h0 (aO K pm (s.ba p a) d) b:=by
 obtain ⟨h1,a1,n,put⟩:=o.f3;obtain ⟨h,a2,f,_,t⟩:=n.one hp;obtain ⟨z,f⟩:=Has.ex.1 f;obtain ⟨q,f⟩:=Has.ex.1 f;obtain ⟨r,i⟩:=f.kS;refine ⟨h,z,q,Hp.le_trans a1 a2,i,r,λg a b l m=>put _ _ ?_⟩;have:=t _ _ (Has.ex.2 ⟨g,Has.ex.2 ⟨q,m.fV l⟩⟩:Has h (re K p a) b);refine cast (congrArg (λA=>Has h1 A b) (vR λj u=> ?_)) this;by_cases e:j=p
 ·subst e;rw [mz];show _=re K j (de s.proc j a j);rw [mz];rfl
 ·rw [mn e];show _=re K j (de s.proc p a j);rw [mn e]
theorem Has.tJ {i:Nat} (o:Has h0 (aO K pm s d) k) (n:i<nP K.c):∃h1 x lp b,h0<=h1/\nY K i x lp b (s.part i)/\Has h1 (q6 K i x lp b (s.part i) (d i)) k/\
  ∀l f g h,nY K i l lp b f->Has h1 (q6 K i l lp b f g) h->Has h0 (aO K pm (s.dT i f) (de d i g)) h:=by
 obtain ⟨h1,a1,t,put⟩:=o.f2;obtain ⟨m,a2,a,_,v⟩:=t.one n;obtain ⟨x,a⟩:=Has.ex.1 a;obtain ⟨lp,a⟩:=Has.ex.1 a;obtain ⟨b,a⟩:=Has.ex.1 a;obtain ⟨u,p⟩:=a.kS;refine ⟨m,x,lp,b,Hp.le_trans a1 a2,p,u,λl f g h q r=>put _ _ ?_⟩;have:=v _ _ (Has.ex.2 ⟨l,Has.ex.2 ⟨lp,Has.ex.2 ⟨b,r.fV q⟩⟩⟩:Has m (qZ K i f g) h);refine cast (congrArg (λA=>Has h1 A h) (vR λj w=> ?_)) this;by_cases e:j=i
 ·subst e;rw [mz];show _=qZ K j (de s.part j f j) (de d j g j);rw [mz,mz];rfl
 ·rw [mn e];show _=qZ K j (de s.part i f j) (de d i g j);rw [mn e,mn e]
theorem Has.fu (o:Has h0 (aO K pm s d) k):Has h0 (dZ Mh pm (tT K.x s.tick)) k:=Has.left o
theorem eh.yo (m:eh h0 K) (a:h0<=k) {p:Nat} (hp:p<nQ K.c) {Q:Option Addr->Prop} (b:Q (some (K.pr.getD p a0))):bI K.x.procs.base K.x.procs.len (p:Int)/\aN none al k (sat K.x.procs.base 1 (p:Int)) Q:=by have e:=m.QG;refine Rs.get (m.pr.mono a) (λ_=>rfl) (by omega) (by omega) (by rw [List.length_map];omega) λ(y:Option Addr) f=> ?_;grind
theorem eh.partAt (m:eh h0 K) (a:h0<=k) {p:Nat} (hp:p<nP K.c) {Q:Option Addr->Prop} (b:Q (some (K.pt.getD p a0))):bI K.x.parts.base K.x.parts.len (p:Int)/\aN none al k (sat K.x.parts.base 1 (p:Int)) Q:=by have e:=m.QH;refine Rs.get (m.pt.mono a) (λ_=>rfl) (by omega) (by omega) (by rw [List.length_map];omega) λ(y:Option Addr) f=> ?_;grind
theorem eh.pZ (m:eh h0 K):K.x.procs.len=nQ K.c:=by have:=m.pr.1;rw [List.length_map,m.QG] at this;exact this
theorem eh.tK (m:eh h0 K):K.x.parts.len=nP K.c:=by have:=m.pt.1;rw [List.length_map,m.QH] at this;exact this
end
abbrev MK.p (K:MK) (p:Nat):Addr:=K.pr.getD p a0
abbrev MK.q (K:MK) (i:Nat):Addr:=K.pt.getD i a0
section
variable {h0 h1 k:Hp} {K:MK} {pm:Addr} {s:MS} {a:Nat->Nat->Int}
theorem Has.dX {p:Nat} (o:Has h0 (aO K pm s a) k) (hp:p<nQ K.c):∃h1 z q,h0<=h1/\gi K p z q (s.proc p)/\Has h1 (dZ bK (K.p p) z) k/\
  ∀e b d,gi K p e q b->b.ak=(s.proc p).ak->b.ai=(s.proc p).ai->Has h1 (dZ bK (K.p p) e) d->Has h0 (aO K pm (s.ba p b) a) d:=by
 obtain ⟨h1,z,q,i,g,m,put⟩:=o.CP hp;obtain ⟨f,j,n,_,r⟩:=m.fst;refine ⟨f,z,q,Hp.le_trans i j,g,n,λe b d h t u l=>put e b d h ?_⟩;have:=r _ _ l;unfold vw;grind
theorem Has.pY {p:Nat} (o:Has h0 (aO K pm s a) k) (hp:p<nQ K.c):∃h1 z q,h0<=h1/\gi K p z q (s.proc p)/\Has h0 (dZ bK (K.p p) z) k/\Has h1 (eJ q K.c.lane (s.proc p).ak (s.proc p).ai) k/\
  ∀e d b,Has h1 (eJ q K.c.lane e d) b->Has h0 (aO K pm (s.ba p {s.proc p with ak:=e,ai:=d}) a) b:=by
 obtain ⟨h1,z,q,g,f,h,put⟩:=o.CP hp;obtain ⟨i,j,m,_,n⟩:=h.snd;exact ⟨i,z,q,Hp.le_trans g j,f,(Has.left h).mono g,m,λe d b l=>put z _ b f (n _ _ l)⟩
def xZ (z:aW) (c:br):aW:=⟨z.dY,z.part,z.code,z.state,c.PC,c.cl,c.cm,c.cn,c.cp,c.cq,c.cv,c.cw,c.cC,z.bB,z.post⟩
def qo (z:aW) (n:Int):aW:=⟨z.dY,z.part,z.code,n,z.kO,z.gF,z.gG,z.gH,z.gI,z.gJ,z.gK,z.gL,z.gM,z.bB,z.post⟩
def xk (z:aW) (b:Bool):aW:=⟨z.dY,z.part,z.code,z.state,z.kO,z.gF,z.gG,z.gH,z.gI,z.gJ,z.gK,z.gL,z.gM,b,z.post⟩
theorem gi.core {p:Nat} {z:aW} {q:Addr} {y:aj} (b:gi K p z q y) (c:br):gi K p (xZ z c) q (y.put (hH c)):=⟨b.1,b.2.1,b.2.2.1,b.2.2.2.1,rfl,b.2.2.2.2.2⟩
theorem gi.state {p:Nat} {z:aW} {q:Addr} {y:aj} (b:gi K p z q y) (n:Int):gi K p (qo z n) q {y with state:=n}:=⟨b.1,b.2.1,b.2.2.1,rfl,b.2.2.2.2⟩
theorem gi.bB {p:Nat} {z:aW} {q:Addr} {y:aj} (c:gi K p z q y) (b:Bool):gi K p (xk z b) q {y with bB:=b}:=⟨c.1,c.2.1,c.2.2.1,c.2.2.2.1,c.2.2.2.2.1,rfl,c.2.2.2.2.2.2⟩
theorem FG {n:Int} {Q:Bool->Hp->Prop} (b:Q (decide (n≠5)&&decide (n≠6)) k):Nu prog n Q k:=by unfold Nu;refine aE ?_;grind
theorem Lg {n:Int} {Q:Int->Hp->Prop} (b:ji n) (c:Q (more n) k):zvt prog n Q k:=by
 unfold zvt;unfold ji at b;rw [aV];have:jV (n+1) 65535=more n:=by unfold jV more;split<;>split<;>omega
 grind
theorem Gn {p:Nat} {c:br} {m:Option Addr} {Q:Hp->Prop} (o:Has h0 (aO K pm s a) k) (hp:p<nQ K.c) (d:∀b,Has h0 (aO K pm (s.ba p (xt (s.proc p) (hH c))) a) b->Q b):WA prog m (some (K.p p)) c Q k:=by unfold WA;obtain ⟨h1,z,q,l,e,f,put⟩:=o.dX hp;refine aJ (f.st (qo z 0) (by show 3+1<=15;omega) rfl λi g=> ?_);refine ⟨⟨trivial,trivial⟩,aJ (g.st (xZ (qo z 0) c) (by show 4+9<=15;omega) rfl λj h=> ?_)⟩;exact d _ (put _ _ _ ((e.state 0).core c) rfl rfl h)
theorem eh.tx (m:eh h0 K) (b:h0<=k) {p:Nat} (hp:p<nQ K.c) {z:aW} {q:Addr} {y:aj} (d:gi K p z q y):nG k z.code (K.ins p):=by rw [d.2.2.1];exact ((m.code p hp).1).mono b
theorem FQ {p:Nat} {v:Int} {n:Option Addr} {Q:Hp->Prop} (m:eh h0 K) (o:Has h0 (aO K pm s a) k) (hp:p<nQ K.c) (u:0<=(s.proc p).pc/\(s.proc p).pc<4611686018427387904) (i:∀d,Has h0 (aO K pm (db K.c s p v) a) d->Q d):
  U3 prog n (some (K.p p)) v Q k:=by
 unfold U3;obtain ⟨h1,z,q,x,b,f,put⟩:=o.dX hp;refine aJ (f.ld (shf:=fM) (fb z) rfl ?_);refine aJ (f.ld (shf:=aw) z.code rfl ?_);have e:hH (fb z)=(s.proc p).core:=b.2.2.2.2.1;have t:(fb z).PC=(s.proc p).pc:=congrArg Core.pc e;refine abp (YK (m.tx o.le hp b) (by omega) λr w l h=> ?_);refine U7 (Gn (o.grow l) hp λj g=>i j ?_);rw [h,e,(m.code p hp).2] at g;exact g
theorem Gp {p:Nat} {i:Option Addr} {Q:Hp->Prop} (o:Has h0 (aO K pm s a) k) (hp:p<nQ K.c) (b:∀g,Has h0 (aO K pm (s.ba p (fq (s.proc p))) a) g->Q g):Ww prog i (some (K.p p)) Q k:=by
 unfold Ww;obtain ⟨h1,z,q,m,d,f,put⟩:=o.dX hp;refine aJ (f.ld (shf:=af .i64) z.state rfl ?_);have e:z.state=(s.proc p).state:=d.2.2.2.1;unfold fq at b;by_cases h:(s.proc p).state=1
 ·rw [if_pos (show (z.state==1)=true by rw [e,h];rfl)];rw [if_pos h] at b;exact aJ (f.st (qo z 0) (by show 3+1<=15;omega) rfl λl j=>b _ (put _ _ _ (d.state 0) rfl rfl j))
 ·rw [if_neg (show ¬(z.state==1)=true by grind)];rw [if_neg h] at b;exact b _ (put z (s.proc p) k d rfl rfl f)
theorem FH {my:Int} {Q:Hp->Prop} (m:eh h0 K) (o:Has h0 (aO K pm s a) k) (t:0<=my->my<(nQ K.c:Int)/\0<=(s.proc my.toNat).pc/\(s.proc my.toNat).pc<4611686018427387904) (b:∀g,Has h0 (aO K pm (jZ s my) a) g->Q g):
  VX prog (some pm) my Q k:=by
 unfold VX;unfold jZ at b;by_cases h:0<=my
 ·rw [if_pos (by simpa using h)];rw [if_pos h] at b;obtain ⟨D,A⟩:=t h;have hp:my.toNat<nQ K.c:=by omega
  have r:((my.toNat:Nat):Int)=my:=by omega
  have at_:=m.yo o.le hp (Q:=λy=>y=some (K.p my.toNat)) rfl;rw [r] at at_;obtain ⟨f,y,d,rfl⟩:=at_;refine aJ (o.fu.ld (shf:=aw) K.x.procs rfl ⟨f,_,d,aJ (o.fu.ld (shf:=aw) K.x.procs rfl ⟨f,_,d,?_⟩)⟩);obtain ⟨h1,z,q,C,u,w,put⟩:=o.dX hp;have e:hH (fb z)=(s.proc my.toNat).core:=u.2.2.2.2.1;have l:(fb z).PC=(s.proc my.toNat).pc:=congrArg Core.pc e;refine aJ (w.ld (shf:=fM) (fb z) rfl ?_);refine EL (uZ (by rw [l];exact A) λB j=> ?_);refine ⟨⟨o.fu.fG (n:=1) rfl,d,trivial⟩,?_⟩;refine U7 (Gn o hp λv i=>b v ?_);rw [j,e] at i;exact i
 grind
end
def j9 (c:aL) (i j:Nat):Bool:=fl c.labels (i:Int) (j:Int)
structure HV (n:Nat) (l:aX):Prop where
 values:l.values.length<=64
 waiters:l.waiters.length<=100
 taken:ji l.taken
 dropped:ji l.dropped
 nd:(l.waiters.map (·.proc)).Nodup
 my:∀w∈l.waiters,0<=w.proc/\w.proc<(n:Int)
structure sZ (c:aL) (x:aj):Prop where
 pc:0<=x.pc/\x.pc<=1000
 len:x.ak.length=nP c+1
 cur:0<=x.ai/\x.ai<x.ak.length
 dP:∀l∈x.ak,HV (nQ c) l
structure HU (c:aL) (x:cJ):Prop where
 cur:0<=x.ai/\x.ai<4611686018427387904
 lR:x.log.length<=4096
 lost:ji x.lost
 km:ji x.forbidden
 iZ:x.ax.length=x.au.length
 jQ:(x.au.length:Int)=c.ag
 mI:x.au.length<=8/\∀q∈x.au,q.length<=100
 nd:∀q∈x.au,q.Nodup/\∀z∈q,0<=z/\z<(nQ c:Int)
structure kN (c:aL) (s:MS):Prop where
 proc:∀p,p<nQ c->sZ c (s.proc p)
 part:∀i,i<nP c->HU c (s.part i)
theorem Bp {x:aj} {i:Nat} {l:aX} {f:aX->aX} (h:x.ak[i]? =some l):cf x i f={x with ak:=x.ak.set i (f l)}:=by
 unfold cf;congr 1;refine List.ext_getElem? λj=> ?_;by_cases e:i=j
 ·subst e;rw [zd h,List.getElem?_set_self (List.getElem?_eq_some_iff.1 h).1]
 ·rw [Gc e,List.getElem?_set_ne e]
section
variable {h0 h1 k:Hp} {K:MK} {pm:Addr} {s:MS} {d:Nat->Nat->Int}
theorem Has.vK {i:Nat} (o:Has h0 (aO K pm s d) k) (t:i<nP K.c):∃h1 x lp f,h0<=h1/\nY K i x lp f (s.part i)/\Has h1 (dZ Ad (K.q i) x) k/\
  ∀b a e,nY K i b lp f a->b.log=x.log->a.log=(s.part i).log->a.ax=(s.part i).ax->a.au=(s.part i).au->Has h1 (dZ Ad (K.q i) b) e->Has h0 (aO K pm (s.dT i a) d) e:=by
 obtain ⟨h1,x,lp,f,w,u,A,put⟩:=o.tJ t;obtain ⟨m,y,B,_,C⟩:=A.fst;refine ⟨m,x,lp,f,Hp.le_trans w y,u,B,λb a e v g h j l z=> ?_⟩;have n:=C _ _ z;have p:Has h1 (q6 K i b lp f a (d i)) e:=by unfold q6;rw [g,h,j,l];exact n
 have r:=put b a (d i) e v p
 rwa [BV] at r
theorem kN.told (a:kN K.c s) {p:Nat} (hp:p<nQ K.c):0<=(s.proc p).pc/\(s.proc p).pc<4611686018427387904:=by have:=(a.proc p hp).pc;omega
theorem eh.ptr (m:eh h0 K) (o:Has h0 (aO K pm s d) k) {p:Nat} (hp:p<nQ K.c):bI K.x.procs.base K.x.procs.len (p:Int)/\aZ k (sat K.x.procs.base 1 (p:Int)) [.pointer (some (K.p p))]:=by obtain ⟨a,y,b,rfl⟩:=m.yo o.le hp (Q:=λy=>y=some (K.p p)) rfl;exact ⟨a,b⟩
theorem eh.wF (m:eh h0 K) (o:Has h0 (aO K pm s d) k) {p:Nat} (hp:p<nP K.c):bI K.x.parts.base K.x.parts.len (p:Int)/\aZ k (sat K.x.parts.base 1 (p:Int)) [.pointer (some (K.q p))]:=by obtain ⟨a,y,b,rfl⟩:=m.partAt o.le hp (Q:=λy=>y=some (K.q p)) rfl;exact ⟨a,b⟩
theorem G3 {q i:Nat} {v:Int} {z:aW} {a:Addr} {Q:Int->Hp->Prop} (o:Has h0 (aO K pm s d) k) (L:q<nQ K.c) (T:sZ K.c (s.proc q)) (J:K.c.lane<=64) (V:i<=nP K.c) (M:gi K q z a (s.proc q)) (O:Has h1 (dZ bK (K.p q) z) k)
  (u:gm K.c (s.proc q) i=true->Q 19 k) (w:∀e,gm K.c (s.proc q) i=false->Has h0 (aO K pm (s.ba q (cf (s.proc q) i (wA v))) d) e->Q 0 e):Ro prog (some a) (i:Int) v Q k:=by
 obtain ⟨U,f,x,X,N,S,R,put⟩:=o.pY L;have F:x=a:=by
  obtain ⟨b,G,hb,_⟩:=O.sr;obtain ⟨y,r,I,_⟩:=S.sr;rw [G] at r;have A:b=y:=congrArg Addr.block r;subst A;obtain ⟨t,B⟩:=hb;obtain ⟨Y,g⟩:=I;rw [B] at g;have C:(bA (bK.enc z)).toArray=(bA (bK.enc f)).toArray:=by injection g with g;injection g
  have D:bA (bK.enc z)=bA (bK.enc f):=by simpa using C
  have E:(bA (bK.enc z))[14]? =(bA (bK.enc f))[14]?:=by rw [D]
  have m:some (Value.pointer z.post)=some (Value.pointer f.post):=E;have n:z.post=f.post:=by injection m with m;injection m
  rw [M.2.2.2.2.2.2,N.2.2.2.2.2.2] at n;exact (Option.some.inj n).symm
 subst F;have W:=T.len;have j:=List.getElem?_eq_getElem (show i<(s.proc q).ak.length by omega);generalize (s.proc q).ak[i]=l at j;have H:gm K.c (s.proc q) i=decide (K.c.lane<=(l.values.length:Int)):=by unfold gm;rw [j]
 rw [H] at u w;refine aaK R j J (λh=>u (decide_eq_true h)) λe h P=>w e (decide_eq_false h) ?_;rw [Bp j];exact put _ _ e P
end
section
variable {h0 h1 k:Hp} {K:MK} {pm:Addr} {s:MS} {b:Nat->Nat->Int}
theorem PM {p:Nat}:s.ba p (s.proc p)=s:=by unfold MS.ba;rw [BV]
theorem Li {x:aj}:(fq x).pc=x.pc:=rfl
theorem Gq {x:aj} {i:Nat} {f:aX->aX}:(cf x i f).pc=x.pc:=rfl
theorem CO {p q:Nat} {y:aj} (e:y.pc=(s.proc q).pc):((s.ba q y).proc p).pc=(s.proc p).pc:=by
 by_cases h:p=q
 ·subst h;rw [gD,e]
 ·rw [jN h]
theorem Lk {q i:Nat} {Q:Hp->Prop} (o:Has h0 (aO K pm s b) k) (n:q<nQ K.c) (h:sZ K.c (s.proc q)) (w:i<=nP K.c) {C:Prop} (m:∀d,Has h0 (aO K pm (s.ba q (cf (s.proc q) i lS)) b) d->Q d):
  ∃z a,gi K q z a (s.proc q)/\(∀ {f:Option Addr->Prop},f (some a)->aN none al k ((K.p q).add 14) f)/\Rj prog (some a) (i:Int) Q k:=by
 obtain ⟨v,z,a,y,g,u,t,put⟩:=o.pY n;refine ⟨z,a,g,λj=>u.ld (shf:=al) z.post rfl (by rw [g.2.2.2.2.2.2];exact j),?_⟩;have x:=h.len;have e:=List.getElem?_eq_getElem (show i<(s.proc q).ak.length by omega);generalize (s.proc q).ak[i]=l at e;refine Yl t e (h.dP l (List.mem_of_getElem? e)).dropped λd r=>m d ?_;rw [Bp e];exact put _ _ d r
def G5 (c:aL) (s:MS) (p q:Nat) (v:Int):MS:=
 if lH (s.proc q)=false then db c s p 2
 else if gm c (s.proc q) (aG c p) then
  let s1:=s.ba q (cf (s.proc q) (aG c p) (iS p v))
  s1.ba p {s1.proc p with state:=2}
 else db c (s.ba q (fq (cf (s.proc q) (aG c p) (wA v)))) p 0
theorem TR {p q:Nat} {v:Int} {Q:Hp->Prop} (m:eh h0 K) (B:cP K.c) (o:Has h0 (aO K pm s b) k) (n:kN K.c s) (hp:p<nQ K.c) (g:q<nQ K.c) (U:∀l∈(s.proc q).ak,∀z∈l.waiters,z.proc≠(p:Int))
  (f:∀A,Has h0 (aO K pm (G5 K.c s p q v) b) A->Q A):Vi prog (some pm) (some (K.p p)) (some (K.p q)) v Q k:=by
 unfold Vi;obtain ⟨h1,r,ap,l1,G,op,_⟩:=o.dX hp;obtain ⟨h2,a,C,l2,u,j,_⟩:=o.dX g;unfold G5 at f;have V:aG K.c p<=nP K.c:=Nat.le_of_lt B.fP;refine aJ (j.ld (shf:=af .i64) a.state rfl ?_);refine Ht (FG ?_);have T:a.state=(s.proc q).state:=u.2.2.2.1;have S:(decide (a.state≠5)&&decide (a.state≠6))=lH (s.proc q):=by rw [T];rfl
 rw [S];by_cases d:lH (s.proc q)=false
 ·rw [if_pos (by rw [d];rfl)];rw [if_pos d] at f;exact DR (FQ m o hp (n.told hp) f)
 ·rw [if_neg (by cases e:lH (s.proc q)<;>simp [e] at d ⊢)];rw [if_neg d] at f;refine aJ (j.ld (shf:=al) a.post rfl ?_);refine aJ (op.ld (shf:=af .i64) r.part rfl ?_);have E:r.part=(aG K.c p:Int):=G.2.1;have eq:a.post=some C:=u.2.2.2.2.2.2;rw [E,eq];refine zpc (G3 o g (n.proc q g) B.lane.2 V u j (λi=> ?_) λA i o'=> ?_)
  ·rw [if_pos (by decide)];rw [if_pos i] at f;refine aJ (j.ld (shf:=al) a.post rfl ?_);refine aJ (op.ld (shf:=af .i64) r.part rfl ?_);refine aJ (op.ld (shf:=af .i64) r.dY rfl ?_);have R:r.dY=(p:Int):=G.1;rw [E,eq,R];obtain ⟨h3,w,J,l3,W,o3,o2,put⟩:=o.pY g;have O:J=C:=by
    have L:=o3.ld (shf:=al) (off:=14) w.post rfl (K:=λy=>y=w.post) rfl;have M:=j.ld (shf:=al) (off:=14) a.post rfl (K:=λy=>y=a.post) rfl;obtain ⟨y1,x,rfl⟩:=L;obtain ⟨y2,h,rfl⟩:=M;have x:=x 0 (.pointer w.post) rfl;have h:=h 0 (.pointer a.post) rfl;rw [x] at h;have D:w.post=a.post:=by injection h with h;injection h
    rw [u.2.2.2.2.2.2,W.2.2.2.2.2.2] at D;exact Option.some.inj D
   subst O;have a9:=(n.proc q g).len;have t:=List.getElem?_eq_getElem (show aG K.c p<(s.proc q).ak.length by omega);generalize (s.proc q).ak[aG K.c p]=l at t;have P:gm K.c (s.proc q) (aG K.c p)=decide (K.c.lane<=(l.values.length:Int)):=by unfold gm;rw [t]
   have F:=λl d=>(n.proc q g).dP l d;have b0:=B.parts;refine UK (Yp o2 ⟨by omega,λl d=>⟨(F l d).waiters,by have:=(F l d).values;omega⟩⟩ U t (by rw [P] at i;exact of_decide_eq_true i) λY o4=> ?_);have I:=put _ _ _ o4;have N:({s.proc q with ak:=(s.proc q).ak.set (aG K.c p) (iS p v l),ai:=(s.proc q).ai}:aj)=cf (s.proc q) (aG K.c p) (iS p v):=(Bp t).symm;rw [N] at I;obtain ⟨h4,z4,a4,l4,X,o6,a8⟩:=I.dX hp;refine aJ (o6.st (qo z4 2) (by show 3+1<=15;omega) rfl λZ o7=> ?_);exact f Z (a8 _ _ _ (X.state 2) rfl rfl o7)
  ·rw [if_neg (by decide)];rw [if_neg (by rw [i];decide)] at f;refine U5 (Gp o' g λY H=> ?_);rw [gD,C0] at H;refine DR (FQ m H hp ?_ f);rw [CO (by rw [Li,Gq])];exact n.told hp
end
section
variable {h0 h1 k:Hp} {K:MK} {pm:Addr} {s:MS} {b:Nat->Nat->Int}
theorem Has.agree {a:Addr} {z c:aW} (f:Has h0 (dZ bK a c) k) (g:Has h1 (dZ bK a z) k):c.post=z.post:=by obtain ⟨h,d,rfl⟩:=f.ld (shf:=al) (off:=14) c.post rfl (K:=λy=>y=c.post) rfl;obtain ⟨i,e,rfl⟩:=g.ld (shf:=al) (off:=14) z.post rfl (K:=λy=>y=z.post) rfl;have d:=d 0 (.pointer c.post) rfl;have e:=e 0 (.pointer z.post) rfl;grind
theorem gi.same {p:Nat} {z d:aW} {a c:Addr} {y h:aj} (f:gi K p z a y) (g:gi K p d c h) (e:d.post=z.post):c=a:=by rw [f.2.2.2.2.2.2,g.2.2.2.2.2.2] at e;grind
theorem YM {c:aL} {p:Nat} {to v:Int}:lW c (j9 c) s p to v=if to<0\/(nQ c:Int)<=to then db c s p 1
 else if j9 c (aG c p) (aG c to.toNat)=false then db c (s.dT (aG c p) {s.part (aG c p) with forbidden:=more (s.part (aG c p)).forbidden}) p 0
 else if aG c p=aG c to.toNat then G5 c s p to.toNat v
 else if lH (s.proc to.toNat)=false\/gm c (s.proc to.toNat) (aG c p) then db c (s.ba to.toNat (cf (s.proc to.toNat) (aG c p) lS)) p 0
 else db c (s.ba to.toNat (fq (cf (s.proc to.toNat) (aG c p) (wA v)))) p 0:=rfl
theorem V4 {p:Nat} {to v:Int} {Q:Hp->Prop} (m:eh h0 K) (I:cP K.c) (o:Has h0 (aO K pm s b) k) (t:kN K.c s) (hp:p<nQ K.c) (hn:∀q,q<nQ K.c->∀l∈(s.proc q).ak,∀z∈l.waiters,z.proc≠(p:Int))
  (a:∀r,Has h0 (aO K pm (lW K.c (j9 K.c) s p to v) b) r->Q r):VT prog (some pm) (some (K.p p)) to v Q k:=by
 unfold VT;rw [YM] at a;have b1:=m.pZ;have e0:(tT K.x s.tick).procs=K.x.procs:=rfl;refine aJ (o.fu.pM (shf:=aw) K.x.procs rfl ?_);refine aE ?_;rw [b1];by_cases h:to<0\/(nQ K.c:Int)<=to
 ·rw [if_pos (by simp;omega)];rw [if_pos h] at a;exact DR (FQ m o hp (t.told hp) a)
 rw [if_neg (by simp;omega)];rw [if_neg h] at a;have g:to.toNat<nQ K.c:=by omega
 have Y:((to.toNat:Nat):Int)=to:=by omega
 obtain ⟨M,N⟩:=m.ptr o g;rw [Y] at M N;obtain ⟨h1,j,ap,l1,b2,op,c0⟩:=o.dX hp;obtain ⟨h2,f,S,l2,B,A,_⟩:=o.dX g;have u:aG K.c p<nP K.c:=I.fP;have i:j.part=(aG K.c p:Int):=b2.2.1;have eq:f.part=(aG K.c to.toNat:Int):=B.2.1;have W:f.post=some S:=B.2.2.2.2.2.2;refine aJ (o.fu.ld (shf:=aw) K.x.procs rfl ⟨M,some (K.p to.toNat),N,?_⟩);refine aJ (o.fu.ld (shf:=al) K.x.table rfl ?_);refine aJ (op.ld (shf:=af .i64) j.part rfl ?_);refine aJ (A.ld (shf:=af .i64) f.part rfl ?_);rw [m.t1,i,eq];refine zpv (NL (m.t2.mono o.le) m.Ds ?_);have U:fl K.c.labels (aG K.c p:Int) (aG K.c to.toNat:Int)=j9 K.c (aG K.c p) (aG K.c to.toNat):=rfl;rw [U];by_cases G:j9 K.c (aG K.c p) (aG K.c to.toNat)=false
 ·rw [if_pos (by rw [G];rfl)];rw [if_pos G] at a;obtain ⟨O,E⟩:=m.wF o u;obtain ⟨h3,x,lp,wp,l3,w,R,b6⟩:=o.vK u;refine aJ (o.fu.ld (shf:=aw) K.x.parts rfl ?_);refine aJ (op.ld (shf:=af .i64) j.part rfl ?_);rw [i];refine ⟨O,_,E,?_⟩;refine aJ (o.fu.ld (shf:=aw) K.x.parts rfl ?_);refine aJ (op.ld (shf:=af .i64) j.part rfl ?_);rw [i];refine ⟨O,_,E,?_⟩;refine aJ (R.ld (shf:=af .i64) x.forbidden rfl ?_);have ex:x.forbidden=(s.part (aG K.c p)).forbidden:=w.2.2.2.1;rw [ex];refine zxh (Lg (t.part _ u).km ?_);refine ⟨⟨o.fu.fG (n:=1) rfl,by rw [<-i];exact op.fG (n:=1) rfl,E,trivial⟩,?_⟩;refine aJ (R.st (⟨x.procs,x.ai,x.log,x.lost,more (s.part (aG K.c p)).forbidden,x.ag,x.eM⟩:bw) (by show 4+1<=7;omega) rfl λk1 D=> ?_);have L:=b6 (⟨x.procs,x.ai,x.log,x.lost,more (s.part (aG K.c p)).forbidden,x.ag,x.eM⟩:bw) {s.part (aG K.c p) with forbidden:=more (s.part (aG K.c p)).forbidden} _ ⟨w.1,w.2.1,w.2.2.1,rfl,w.2.2.2.2⟩ rfl rfl rfl rfl D;exact DR (FQ m L hp (t.told hp) a)
 rw [if_neg (by grind)];rw [if_neg G] at a;refine aJ (op.ld (shf:=af .i64) j.part rfl ?_);refine aJ (A.ld (shf:=af .i64) f.part rfl ?_);rw [i,eq];by_cases H:aG K.c p=aG K.c to.toNat
 ·rw [if_pos (by rw [H];simp)];rw [if_pos H] at a;exact zuk (TR m I o t hp g (hn _ g) a)
 rw [if_neg (by simp;omega)];rw [if_neg H] at a;have sq:=t.proc _ g;refine da.intro (λr=>∃y:aj,y.pc=(s.proc to.toNat).pc/\Has h0 (aO K pm (s.ba to.toNat y) b) r/\∀d,Has h0 (aO K pm (db K.c (s.ba to.toNat y) p 0) b) d->Q d) ?_ ?_
 ·have drop:∀(P:lH (s.proc to.toNat)=false\/gm K.c (s.proc to.toNat) (aG K.c p)=true),
   ah none (some (K.p to.toNat)) λb4=>
   aN none al k (Addr.add b4 14) λb7=>
   ah none (some (K.p p)) λb5=>
   aN none (af .i64) k (Addr.add b5 1) λb8=>
   aM prog MZ [(.pointer b7),(.int .i64 b8)] (λF=>∃y:aj,y.pc=(s.proc to.toNat).pc/\Has h0 (aO K pm (s.ba to.toNat y) b) F/\∀d,Has h0 (aO K pm (db K.c (s.ba to.toNat y) p 0) b) d->Q d) k:=by
   intro P;rw [if_pos P] at a;obtain ⟨z4,a4,b9,b3,T⟩:=Lk (C:=True) (Q:=λF=>∃y:aj,y.pc=(s.proc to.toNat).pc/\Has h0 (aO K pm (s.ba to.toNat y) b) F/\∀d,Has h0 (aO K pm (db K.c (s.ba to.toNat y) p 0) b) d->Q d) o g sq (Nat.le_of_lt u) λr J=>⟨_,Gq,J,a⟩;refine aJ (b3 (aJ (op.ld (shf:=af .i64) j.part rfl ?_)));rw [i];exact zui T
  refine aJ (A.ld (shf:=af .i64) f.state rfl ?_);refine Ht (FG ?_);have X:f.state=(s.proc to.toNat).state:=B.2.2.2.1;have V:(decide (f.state≠5)&&decide (f.state≠6))=lH (s.proc to.toNat):=by rw [X];rfl
  rw [V];refine aJ (A.pM (shf:=al) f.post rfl ?_);refine aJ (op.pM (shf:=af .i64) j.part rfl ?_);rw [i,W];by_cases hl:lH (s.proc to.toNat)=false
  ·rw [hl];refine ⟨λe=>(by cases e),λ_=>⟨0,aE ?_⟩⟩;grind
  ·have b0:lH (s.proc to.toNat)=true:=by grind
   rw [b0];refine ⟨λ_=> ?_,λe=>(by cases e)⟩;refine zpc (G3 o g sq I.lane.2 (Nat.le_of_lt u) B A (λa8=>aE ?_) λr a8 J=>aE ?_)
   ·grind
   ·rw [if_neg (by decide)];rw [if_neg (by grind)] at a;refine U5 (Gp J g λk1 D=> ?_);rw [gD,C0] at D;exact ⟨_,by rw [Li,Gq],D,a⟩
 ·rintro d ⟨y,Z,L,a9⟩;refine DR (FQ m L hp ?_ a9);rw [CO Z];exact t.told hp
theorem PN {p:Int} {Q:Int->Hp->Prop} (m:eh h0 K) (o:Has h0 (aO K pm s b) k) (a:Q (xq K.c s p) k):VR prog (some pm) p Q k:=by
 unfold VR;unfold xq at a;have l:=m.pZ;refine aJ (o.fu.pM (shf:=aw) K.x.procs rfl ?_);refine aE ?_;rw [l];by_cases h:p<0\/(nQ K.c:Int)<=p
 ·rw [if_pos (by simp;omega)];rw [if_pos h] at a;exact a
 rw [if_neg (by simp;omega)];rw [if_neg h] at a;have g:p.toNat<nQ K.c:=by omega
 have j:((p.toNat:Nat):Int)=p:=by omega
 obtain ⟨e,f⟩:=m.ptr o g;rw [j] at e f;obtain ⟨u,d,r,v,n,q,_⟩:=o.dX g;refine aJ (o.fu.ld (shf:=aw) K.x.procs rfl ⟨e,some (K.p p.toNat),f,?_⟩);refine aJ (q.ld (shf:=af .i64) d.state rfl ?_);refine Ht (FG ?_);have i:d.state=(s.proc p.toNat).state:=n.2.2.2.1;have t:(decide (d.state≠5)&&decide (d.state≠6))=lH (s.proc p.toNat):=by rw [i];rfl
 grind
theorem ON {p v:Int} {Q:Int->Hp->Prop} (m:eh h0 K) (A:cP K.c) (o:Has h0 (aO K pm s b) k) (D:kN K.c s) (a:∀e,Has h0 (aO K pm (uA K.c s p v).1 b) e->Q (uA K.c s p v).2 e):LO prog (some pm) p v Q k:=by
 unfold LO;refine zld (PN m o ?_);unfold uA at a;by_cases h:xq K.c s p≠0
 ·grind
 rw [if_neg (by simpa using h)];rw [if_neg h] at a;have G:0<=p/\p<(nQ K.c:Int):=by refine Classical.byContradiction λF=>h ?_;unfold xq;omega
 have d:p.toNat<nQ K.c:=by omega
 have w:((p.toNat:Nat):Int)=p:=by omega
 obtain ⟨g,i⟩:=m.ptr o d;rw [w] at g i;obtain ⟨E,q,r,I,j,n,_⟩:=o.dX d;have u:q.post=some r:=j.2.2.2.2.2.2;have sq:=D.proc _ d;refine aJ (o.fu.ld (shf:=aw) K.x.procs rfl ⟨g,some (K.p p.toNat),i,?_⟩);refine aJ (o.fu.ld (shf:=aw) K.x.parts rfl ?_);refine aJ (n.ld (shf:=al) q.post rfl ?_);rw [u,m.tK];refine zpc (G3 o d sq A.lane.2 (Nat.le_refl _) j n (λf=> ?_) λe f B=> ?_)
 ·rw [if_pos (by decide)];rw [if_pos f] at a;obtain ⟨J,a4,H,z,t⟩:=Lk (C:=True) (Q:=λe=>Q 19 e) o d sq (Nat.le_refl _) a;exact aJ (z (zui t))
 ·rw [if_neg (by decide)];rw [if_neg (by rw [f];decide)] at a;refine U5 (Gp B d λy l=> ?_);rw [gD,C0] at l;exact a y l
end
def BI :Prop:=∀ {c k:Hp} {p:Addr} {room ai:Int} {a:List aX} {Q:Int->Int->bN->Bool->Int->Hp->Prop},Has c (eJ p room a ai) k->(a.length<=1000/\∀l∈a,ji l.taken/\l.values.length<=64)->(0<=ai/\ai<a.length)->
 (qm ai a=none->∀b,Has c (eJ p room a ai) b->Q 0 0 ⟨0,0⟩ false 21 b)->
 (∀(i:Nat) l v d,qm ai a=some i->a[i]? =some l->l.values=v::d->∀b,Has c (eJ p room (a.set i (dK l)) (((i+1:Nat):Int)%(a.length:Int))) b->
  Q v (i:Int) (match l.waiters with | []=>⟨0,0⟩ | w::_=>qf w) (!l.waiters.isEmpty) 0 b)->
 Cz prog zrr [.pointer (some p)] (af .i64) (af .i64) aC bH (af .i64) Q k
section
variable {h0 h1 k:Hp} {K:MK} {pm:Addr} {s:MS} {a:Nat->Nat->Int}
theorem YN {l:List df} {k:Core} {v f:Int}:(gw l k v f).pc=k.pc+1:=by unfold gw;cases iu l k.pc<;>rfl
theorem zg {p:Nat} {c:br} {Q:Hp->Prop} (o:Has h0 (aO K pm s a) k) (hp:p<nQ K.c) (d:∀b,Has h0 (aO K pm (s.ba p ((s.proc p).put (hH c))) a) b->Q b):
  cX k ((K.p p).add 4) [(.int .i64 c.PC),(.int .i64 c.cl),(.int .i64 c.cm),(.int .i64 c.cn),(.int .i64 c.cp),(.int .i64 c.cq),(.int .i64 c.cv),(.int .i64 c.cw),(.int .i64 c.cC)] Q:=by
 obtain ⟨h1,z,q,i,e,f,put⟩:=o.dX hp;exact f.st (xZ z c) (by show 4+9<=15;omega) rfl λh g=>d _ (put _ _ _ (e.core c) rfl rfl g)
theorem PO {p:Nat} {G:Bool} {Q:Hp->Prop} (tk:BI) (m:eh h0 K) (mc:cP K.c) (o:Has h0 (aO K pm s a) k) (t:kN K.c s) (hp:p<nQ K.c)
  (b:∀M,Has h0 (aO K pm (lr K.c s p G) a) M->Q M):VU prog (some pm) (some (K.p p)) G Q k:=by
 unfold VU;obtain ⟨h1,z,q,l1,hz,oz,o1,put⟩:=o.pY hp;have sp:=t.proc p hp;have eq:z.post=some q:=hz.2.2.2.2.2.2;refine aJ (oz.ld (shf:=al) z.post rfl ?_);rw [eq];have a9:=mc.parts;have a8:=sp.len;unfold lr at b;dsimp only at b;refine tk o1 ⟨by omega,λl r=>⟨(sp.dP l r).taken,(sp.dP l r).values⟩⟩ sp.cur (λX k1 E=> ?_) λi l v vs Y r hv k1 E=> ?_
 ·rw [if_neg (by decide)];rw [X] at b;dsimp only at b;have h:=put _ _ _ E;have n:s.ba p {s.proc p with ak:=(s.proc p).ak,ai:=(s.proc p).ai}=s:=PM;rw [n] at h;obtain ⟨W,d,q2,l2,f,j,F⟩:=h.dX hp;have T:d.bB=(s.proc p).bB:=f.2.2.2.2.2.1;refine aJ (j.ld (shf:=bH) d.bB rfl ?_);rw [T];by_cases B:(s.proc p).bB=true
  ·rw [if_pos B];rw [if_pos B] at b;refine aJ (j.st (xk d false) (by show 13+1<=15;omega) rfl λN A=> ?_);have P:=F _ _ _ (f.bB false) rfl rfl A;have e:hH (fb d)=(s.proc p).core:=f.2.2.2.2.1;have u:(fb d).PC=(s.proc p).pc:=congrArg Core.pc e;refine aJ (A.ld (shf:=fM) (fb d) rfl ?_);refine aJ (A.ld (shf:=aw) d.code rfl ?_);refine zzn (Gm (m.tx P.le hp f) (by rw [u];exact t.told hp) λH O y n=> ?_);refine aJ (zg (P.grow y) hp λC g=>b C ?_);rw [gD,C0,n,e,(m.code p hp).2] at g;exact g
  ·rw [if_neg B];rw [if_neg B] at b;cases G with
   | true=>rw [if_pos rfl];rw [if_pos rfl] at b;have e:hH (fb d)=(s.proc p).core:=f.2.2.2.2.1;have u:(fb d).PC=(s.proc p).pc:=congrArg Core.pc e;refine aJ (j.ld (shf:=fM) (fb d) rfl ?_);refine aJ (j.ld (shf:=aw) d.code rfl ?_);refine zzn (Gm (m.tx h.le hp f) (by rw [u];exact t.told hp) λH O y n=> ?_);refine aJ (zg (h.grow y) hp λC g=>b C ?_);rw [n,e,(m.code p hp).2] at g;exact g
   | false=>rw [if_neg (by decide)];rw [if_neg (by decide)] at b;exact aJ (j.st (qo d 1) (by show 3+1<=15;omega) rfl λN A=>b N (F _ _ _ (f.state 1) rfl rfl A))
 ·rw [if_pos (by decide)];rw [Y] at b;dsimp only at b;have h:=put _ _ _ E;have R:(s.proc p).ak.getD i ⟨[],[],0,0⟩=l:=rM r;rw [R] at b;have S:({s.proc p with ak:=(s.proc p).ak.set i (dK l),ai:=((i+1:Nat):Int)%((s.proc p).ak.length:Int)}:aj)={cf (s.proc p) i dK with ai:=((i+1:Nat):Int)%((s.proc p).ak.length:Int)}:=by rw [Bp r]
  rw [S] at h;obtain ⟨W,d,q2,l2,f,j,F⟩:=h.dX hp;rw [gD] at f;have e:hH (fb d)=(s.proc p).core:=f.2.2.2.2.1;have u:(fb d).PC=(s.proc p).pc:=congrArg Core.pc e;refine aJ (j.ld (shf:=fM) (fb d) rfl ?_);refine aJ (j.ld (shf:=aw) d.code rfl ?_);refine zzn (Gm (m.tx h.le hp f) (by rw [u];exact t.told hp) λH O y n=> ?_);refine aJ (zg (h.grow y) hp λC g=> ?_);rw [gD,C0,n,e,(m.code p hp).2] at g;have Z:l.values.headD 0=v:=by rw [hv];rfl
  rw [Z] at b;cases hw:l.waiters with
  | nil=>grind
  | cons w ws=>
   rw [if_pos (by simp)];rw [hw] at b;dsimp only at b;have b0:=(sp.dP l (List.mem_of_getElem? r)).my w (by grind);have D:w.proc.toNat<nQ K.c:=by omega
   have V:((w.proc.toNat:Nat):Int)=w.proc:=by omega
   obtain ⟨I,J⟩:=m.ptr g D;rw [V] at I J;have U:(qf w).cU=w.proc:=rfl;rw [U];refine aJ (g.fu.ld (shf:=aw) K.x.procs rfl ⟨I,some (K.p w.proc.toNat),J,?_⟩);refine DR (FQ m g D ?_ b);by_cases L:w.proc.toNat=p
   ·rw [L,gD];show 0<=(gw _ _ _ _).pc/\(gw _ _ _ _).pc<_;rw [YN];have:=(t.proc p hp).pc;show 0<=(s.proc p).pc+1/\(s.proc p).pc+1<_;omega
   ·rw [jN L];exact t.told D
end
section
variable {h0 h1 k:Hp} {K:MK} {pm:Addr} {s:MS} {g:Nat->Nat->Int}
theorem Has.aside {A:eD} {f:Type} {sz:Nat} {enc:f->List Value} {l:Sl} {e:List f} (o:Has h0 (A.star (ff sz enc l e)) k) (i:∀x,(enc x).length=sz):∃h1,h0<=h1/\Has h1 A k/\Rw h1 sz enc l e:=by obtain ⟨h1,a,b,⟨h,c,d⟩,_⟩:=o.fst;exact ⟨h1,a,b,Has.mO (h0:=h0) ⟨a,h,c,d⟩ i⟩
theorem FI {i:Nat}:s.dT i (s.part i)=s:=by unfold MS.dT;rw [BV]
theorem Has.tI {i:Nat} (o:Has h0 (aO K pm s g) k) (m:i<nP K.c):∃h1 x lp d,h0<=h1/\nY K i x lp d (s.part i)/\Has h0 (dZ Ad (K.q i) x) k/\Has h1 (oH lp (s.part i).ax (s.part i).au) k/\
  ∀os b a,Has h1 (oH lp os b) a->Has h0 (aO K pm (s.dT i {s.part i with ax:=os,au:=b}) g) a:=by
 obtain ⟨h1,x,lp,d,f,e,h,put⟩:=o.tJ m;obtain ⟨y,n,t,v⟩:=h.f3;obtain ⟨j,p,u,_,w⟩:=t.fst;refine ⟨j,x,lp,d,Hp.le_trans f (Hp.le_trans n p),e,(Has.left h).mono f,u,λos b a r=> ?_⟩;have l:=put x {s.part i with ax:=os,au:=b} (g i) a e (v _ _ (w _ _ r))
 rwa [BV] at l
theorem Has.jY {i:Nat} (o:Has h0 (aO K pm s g) k) (m:i<nP K.c):∃h1 x lp a,h0<=h1/\nY K i x lp a (s.part i)/\Has h0 (dZ Ad (K.q i) x) k/\Has h1 (vp a (g i) (2*nQ K.c)) k/\
  ∀d b,Has h1 (vp a d (2*nQ K.c)) b->Has h0 (aO K pm s (de g i d)) b:=by
 obtain ⟨h1,x,lp,a,f,e,h,put⟩:=o.tJ m;obtain ⟨y,n,t,v⟩:=h.f3;obtain ⟨j,p,u,_,w⟩:=t.snd;refine ⟨j,x,lp,a,Hp.le_trans f (Hp.le_trans n p),e,(Has.left h).mono f,u,λd b r=> ?_⟩;have l:=put x (s.part i) d b e (v _ _ (w _ _ r))
 rwa [FI] at l
theorem Has.Io {i:Nat} (o:Has h0 (aO K pm s g) k) (f:i<nP K.c):∃h1 x lp a,h0<=h1/\nY K i x lp a (s.part i)/\Has h0 (dZ Ad (K.q i) x) k/\Has h1 (ff 3 H3 x.log (s.part i).log) k/\Has h0 (q6 K i x lp a (s.part i) (g i)) k/\
  True:=by
 obtain ⟨h1,x,lp,a,b,h,d,put⟩:=o.tJ f;obtain ⟨e,j,l,m⟩:=d.f2;exact ⟨e,x,lp,a,Hp.le_trans b j,h,(Has.left d).mono b,l,d.mono b,trivial⟩
theorem FJ :∀(l:List Int) (s:MS) (q:Nat),(s.proc q).pc<=((l.foldl jZ s).proc q).pc/\((l.foldl jZ s).proc q).pc<=(s.proc q).pc+l.length
 | [],s,q=>⟨Int.le_refl _,by simp⟩
 | a::l,s,q=>by
  have h:=FJ l (jZ s a) q;have b:(s.proc q).pc<=((jZ s a).proc q).pc/\((jZ s a).proc q).pc<=(s.proc q).pc+1:=by
   unfold jZ;split
   ·unfold ry;by_cases e:q=a.toNat
    ·subst e;rw [gD];show _<=(s.proc _).pc+1/\(s.proc _).pc+1<=_;omega
    ·rw [jN e];omega
   ·omega
  grind
theorem YO {l:List df} {k:Core} {v:Int}:(kz l k v).pc=k.pc+1:=by unfold kz;cases iu l k.pc<;>rfl
theorem Lm {c:aL} {v:Int}:∀(l:List cd) (s:MS) (q:Nat),(s.proc q).pc<=((l.foldl (λs w=>db c s w.proc.toNat v) s).proc q).pc/\((l.foldl (λs w=>db c s w.proc.toNat v) s).proc q).pc<=(s.proc q).pc+l.length
 | [],s,q=>⟨Int.le_refl _,by simp⟩
 | a::l,s,q=>by
  have h:=Lm (c:=c) (v:=v) l (db c s a.proc.toNat v) q;have b:(s.proc q).pc<=((db c s a.proc.toNat v).proc q).pc/\((db c s a.proc.toNat v).proc q).pc<=(s.proc q).pc+1:=by
   unfold db;by_cases e:q=a.proc.toNat
   ·subst e;rw [gD];show _<=(kz _ _ _).pc/\(kz _ _ _).pc<=_;rw [YO];show _<=(s.proc _).pc+1/\(s.proc _).pc+1<=_;omega
   ·rw [jN e];omega
  grind
theorem Ln {p:Int}:∀ {os:List Int} {qs:List (List Int)},(∀a∈(kB p os qs).2.2,a= -1\/∃q∈qs,a∈q)/\(kB p os qs).2.2.length<=qs.length
 | [],qs=>by cases qs<;>simp [kB]
 | o::os,[]=>by simp [kB]
 | o::os,q::qs=>by
  obtain ⟨h1,h⟩:=Ln (p:=p) (os:=os) (qs:=qs);have d:∀a∈(kB p os qs).2.2,a= -1\/∃c∈q::qs,a∈c:=λa ha=>(h1 a ha).imp id λ⟨c,e,f⟩=>⟨c,List.mem_cons_of_mem _ e,f⟩;unfold kB;dsimp only;split
  ·cases q with
   | nil=>
    refine ⟨λa ha=> ?_,by simp;omega⟩;rcases List.mem_cons.1 ha with rfl | ha
    ·exact .inl rfl
    ·exact d a ha
   | cons b r=>
    refine ⟨λa ha=> ?_,by simp;omega⟩;rcases List.mem_cons.1 ha with rfl | ha
    ·exact .inr ⟨a::r,List.mem_cons_self ..,List.mem_cons_self ..⟩
    ·exact d a ha
  grind
theorem RC {c:Type} {f:c->Bool}:∀ {l:List c} {a:c},a∈jo f l->a∈l
 | [],_,h=>by cases h
 | b::l,a,h=>by
  unfold jo at h;split at h
  ·grind
  ·rcases List.mem_cons.1 h with rfl | h
   ·simp
   ·exact List.mem_cons_of_mem _ (RC h)
theorem adR {p:Int} {l:List Nat} {q:Nat} (h:q∉l):(nU p s l).ba q (sP p ((nU p s l).proc q))=nU p s (l++ [q]):=by unfold nU MS.ba;congr 1;funext r;unfold de;grind
end
theorem Aq (n:Int):cN (yw n):=by
 (try unfold yw);unfold cN IntKind.wrap
 simp only [IntKind.signed,IntKind.bits];grind
theorem xz {n:Int} (h: -1000000<=n/\n<=1000000):cN n:=by unfold cN;omega
theorem G6 (b:Bool):cN (tG b):=by unfold cN tG;split<;>omega
theorem YP (b c:Int):cN (rG b c):=by
 unfold rG;split
 ·exact xz (by omega)
 ·split<;>exact Aq _
theorem aaU {b c:Int} (hb:cN b):cN (gQ .i64 b c):=by
 unfold gQ;generalize min c.toNat (IntKind.bits .i64)=n;have hp:(0:Int)<2^n:=Int.pow_pos (by omega);rw [Int.fdiv_eq_ediv_of_nonneg _ (Int.le_of_lt hp)];unfold cN at hb ⊢;generalize (2:Int)^n=m at hp;by_cases h:0<=b
 ·have a:=Int.ediv_nonneg h (Int.le_of_lt hp);have d:=Int.ediv_le_self m h;omega
 ·have a:=Int.ediv_neg_of_neg_of_pos (by omega:b<0) hp;have d:b<=b / m:=(Int.le_ediv_iff_mul_le hp).2 (by
   have:=Int.mul_le_mul_of_nonpos_left (show b<=0 by omega) (show (1:Int)<=m by omega);omega)
  omega
theorem vY {p:Prop} [Decidable p] {a b:Int} (c:cN a) (hb:cN b):cN (if p then a else b):=by
 split
 ·exact c
 ·exact hb
theorem aaV {op b c:Int} (hb:cN b):cN (xU op b c):=
 vY (Aq _) (vY (Aq _) (vY (Aq _) (vY (YP _ _) (vY (Aq _) (vY (Aq _) (vY (Aq _) (vY (Aq _)
  (vY (vY hb (Aq _)) (vY (vY hb (aaU hb)) (vY (G6 _) (vY (G6 _) (xz (by omega)))))))))))))
theorem Lp (f:Nat):cN (n7 f):=by
 unfold n7;split
 ·unfold yh cN;omega
 ·exact Aq _
theorem Ce (o:Option Nat):cN (wG o):=by
 cases o with
 | none=>show cN yh;unfold yh cN;omega
 | some r=>exact Lp r
theorem V5 (f:Nat):cN (zG f):=by
 unfold zG;by_cases e:isNaN f=true
 ·rw [if_pos e];exact xz (by omega)
 rw [if_neg e];by_cases a:f64.format.order f 4890909195324358656=some .gt\/f64.format.order f 4890909195324358656=some .eq
 ·rw [if_pos a];unfold cN;omega
 rw [if_neg a];by_cases b:f64.format.order f 14114281232179134464=some .lt
 ·rw [if_pos b];unfold cN;omega
 rw [if_neg b];obtain ⟨n,c,d,g⟩:=OD (by simpa using e) a b;rw [c];have h:IntKind.min .i64= -9223372036854775808:=rfl;have i:IntKind.max .i64=9223372036854775807:=rfl;show cN n;unfold cN;omega
theorem YQ {op b c:Int} (hb:cN b):cN (fF op b c):=by
 unfold fF;split
 ·exact aaV hb
 ·unfold wx;split
  ·exact Ce _
  split
  ·exact Ce _
  split
  ·exact Ce _
  split
  ·exact Ce _
  split
  ·exact G6 _
  split
  ·exact Lp _
  split
  ·exact V5 _
  exact xz (by omega)
structure rV (x:aj):Prop where
 aP:∀v∈x.aP,cN v
 iQ:cN x.timer
 jg:cN x.bP
 dP:∀l∈x.ak,(∀v∈l.values,cN v)/\∀w∈l.waiters,cN w.value
 len:x.ak.length<=1000
structure fZ (s:MS):Prop where
 tick:cN s.tick
 part:∀i,∀e∈(s.part i).log,cN e.tick/\cN e.value
 proc:∀p,rV (s.proc p)
section
variable {c:aL} {s:MS} {p:Nat} {fl:Nat->Nat->Bool}
theorem fZ.ba (t:fZ s) {x:aj} (h:rV x):fZ (s.ba p x):=⟨t.tick,t.part,λq=>by
 show rV (de s.proc p x q);by_cases e:q=p
 ·subst e;rw [mz];exact h
 ·rw [mn e];exact t.proc q⟩
theorem fZ.dT (t:fZ s) {i:Nat} {x:cJ} (h:∀e∈x.log,cN e.tick/\cN e.value):fZ (s.dT i x):=⟨t.tick,λj=>by
 show ∀e∈(de s.part i x j).log,_;by_cases e:j=i
 ·subst e;rw [mz];exact h
 ·rw [mn e];exact t.part j,t.proc⟩
theorem C9 {r:List Int} {i v:Int} (b:∀x∈r,cN x) (hv:cN v):∀x∈kf r i v,cN x:=λx a=>by
 unfold kf at a;split at a
 ·rcases List.mem_or_eq_of_mem_set a with h | h
  ·exact b x h
  ·rw [h];exact hv
 ·exact b x a
theorem Gr {r:List Int} {i:Int} (a:∀x∈r,cN x):cN (fQ r i):=by
 unfold fQ;rw [List.getD_eq_getElem?_getD];cases h:r[i.toNat]? with
 | none=>exact xz (by show -1000000<=(0:Int)/\(0:Int)<=1000000;omega)
 | some x=>exact a x (List.mem_of_getElem? h)
theorem rV.put {x:aj} (t:rV x) {k:Core} (h:∀v∈k.aP,cN v):rV (x.put k):=⟨h,t.iQ,t.jg,t.dP,t.len⟩
theorem rV.go {x:aj} (t:rV x) {k:Core} (h:∀v∈k.aP,cN v):rV (xt x k):=⟨h,t.iQ,t.jg,t.dP,t.len⟩
theorem rV.bP {x:aj} (t:rV x):rV (fq x):=⟨t.aP,t.iQ,t.jg,t.dP,t.len⟩
theorem YR {l:List df} {k:Core} {v:Int} (h:∀x∈k.aP,cN x) (hv:cN v):∀x∈(kz l k v).aP,cN x:=by
 unfold kz;split
 ·exact C9 h hv
 ·exact h
theorem Gs {l:List df} {k:Core} {v w:Int} (h:∀x∈k.aP,cN x) (hv:cN v) (a:cN w):∀x∈(gw l k v w).aP,cN x:=by
 unfold gw;split
 ·exact C9 (C9 h hv) a
 ·exact h
theorem fZ.told (t:fZ s) {v:Int} (hv:cN v):fZ (db c s p v):=t.ba ((t.proc p).go (YR (t.proc p).aP hv))
theorem fZ.given (t:fZ s) {a:Int}:fZ (jZ s a):=by
 unfold jZ;split
 ·exact t.ba ((t.proc _).go (t.proc _).aP)
 ·exact t
theorem fZ.nI :∀ {l:List Int} {s:MS},fZ s->fZ (l.foldl jZ s)
 | [],_,t=>t
 | a::l,s,t=>fZ.nI (l:=l) (s:=jZ s a) t.given
theorem fZ.tU {v:Int} (hv:cN v):∀ {l:List cd} {s:MS},fZ s->fZ (l.foldl (λs w=>db c s w.proc.toNat v) s)
 | [],_,t=>t
 | w::l,s,t=>fZ.tU hv (l:=l) (s:=db c s w.proc.toNat v) (t.told hv)
theorem rV.lane {x:aj} (t:rV x) {i:Nat} {f:aX->aX} (h:∀l,((∀v∈l.values,cN v)/\∀w∈l.waiters,cN w.value)->(∀v∈(f l).values,cN v)/\∀w∈(f l).waiters,cN w.value):rV (cf x i f):=
 ⟨t.aP,t.iQ,t.jg,λl d=>by
  obtain ⟨j,a⟩:=List.mem_iff_getElem?.1 d;obtain ⟨b,hb,h1 | h1⟩:=Bn a
  ·rw [h1.2];exact h b (t.dP b (List.mem_of_getElem? hb))
  ·rw [h1.2];exact t.dP b (List.mem_of_getElem? hb),by show (List.modify _ _ _).length<=_;rw [List.length_modify];exact t.len⟩
theorem ER {v:Int} (hv:cN v) (l:aX) (h:(∀v∈l.values,cN v)/\∀w∈l.waiters,cN w.value):(∀x∈(wA v l).values,cN x)/\∀w∈(wA v l).waiters,cN w.value:=
 ⟨λx hx=>by
  rcases List.mem_append.1 hx with hx | hx
  ·exact h.1 x hx
  ·rw [List.mem_singleton.1 hx];exact hv,h.2⟩
theorem YS {p v:Int} (hv:cN v) (l:aX) (h:(∀v∈l.values,cN v)/\∀w∈l.waiters,cN w.value):(∀x∈(iS p v l).values,cN x)/\∀w∈(iS p v l).waiters,cN w.value:=
 ⟨h.1,λx hx=>by
  rcases List.mem_append.1 hx with hx | hx
  ·exact h.2 x hx
  ·rw [List.mem_singleton.1 hx];exact hv⟩
theorem i0 :cN 0:=xz (by omega)
theorem i1 :cN 1:=xz (by omega)
theorem i2 :cN 2:=xz (by omega)
theorem fZ.send (t:fZ s) {to v:Int} (hv:cN v):fZ (lW c fl s p to v):=by
 unfold lW;split
 ·exact t.told i1
 split
 ·exact (t.dT (i:=aG c p) (x:={s.part (aG c p) with forbidden:=more (s.part (aG c p)).forbidden}) (t.part (aG c p))).told i0
 split
 ·split
  ·exact t.told i2
  split
  ·have t1:=t.ba (p:=to.toNat) ((t.proc to.toNat).lane (i:=aG c p) (YS (p:=p) hv));exact t1.ba ⟨(t1.proc p).aP,(t1.proc p).iQ,(t1.proc p).jg,(t1.proc p).dP,(t1.proc p).len⟩
  ·exact (t.ba (p:=to.toNat) ((t.proc to.toNat).lane (i:=aG c p) (ER hv)).bP).told i0
 ·split
  ·exact (t.ba (p:=to.toNat) ((t.proc to.toNat).lane (i:=aG c p) (f:=lS) λl h=>h)).told i0
  ·exact (t.ba (p:=to.toNat) ((t.proc to.toNat).lane (i:=aG c p) (ER hv)).bP).told i0
theorem YT (l:aX) (h:(∀v∈l.values,cN v)/\∀w∈l.waiters,cN w.value):(∀x∈(dK l).values,cN x)/\∀w∈(dK l).waiters,cN w.value:=by
 unfold dK;split
 ·exact ⟨λx hx=>h.1 x (List.mem_of_mem_tail hx),h.2⟩
 ·rename_i w r e;refine ⟨λx hx=> ?_,λx hx=>h.2 x (by rw [e];exact List.mem_cons_of_mem _ hx)⟩;rcases List.mem_append.1 hx with hx | hx
  ·exact h.1 x (List.mem_of_mem_tail hx)
  ·rw [List.mem_singleton.1 hx];exact h.2 w (by rw [e];exact List.mem_cons_self ..)
theorem fZ.take (t:fZ s) {b:Bool}:fZ (lr c s p b):=by
 have d:=t.proc p;unfold lr;dsimp only;split
 ·rename_i i f;have g:i<(s.proc p).ak.length:=by
   unfold qm at f;have h1:=List.find?_some f;cases e:(s.proc p).ak[i]? with
   | none=>rw [e] at h1;cases h1
   | some l=>exact (List.getElem?_eq_some_iff.1 e).1
  have hv:cN (((s.proc p).ak.getD i ⟨[],[],0,0⟩).values.headD 0):=by
   rw [List.getD_eq_getElem?_getD,List.getElem?_eq_getElem g];show cN ((s.proc p).ak[i].values.headD 0);cases e:(s.proc p).ak[i].values with
   | nil=>exact i0
   | cons a r=>exact (d.dP _ (List.getElem_mem g)).1 a (by rw [e];exact List.mem_cons_self ..)
  have h:=d.len;have t2:rV (cf (s.proc p) i dK):=d.lane YT;have t1:=t.ba (p:=p) (x:=aj.put {cf (s.proc p) i dK with ai:=((i+1:Nat):Int)%((s.proc p).ak.length:Int)} (gw (jq c p) (s.proc p).core (((s.proc p).ak.getD i ⟨[],[],0,0⟩).values.headD 0) i))
   ⟨Gs d.aP hv (xz (n:=(i:Int)) (by omega)),t2.iQ,t2.jg,t2.dP,t2.len⟩
  split
  ·exact t1
  ·exact t1.told i0
 ·split
  ·exact t.ba ⟨Gs d.aP i0 (xz (by omega)),d.iQ,d.jg,d.dP,d.len⟩
  ·split
   ·exact t.ba (d.put (Gs d.aP i0 (xz (by omega))))
   ·exact t.ba ⟨d.aP,d.iQ,d.jg,d.dP,d.len⟩
theorem fZ.out (t:fZ s) {v:Int} (hv:cN v):fZ (tH c s p v):=by
 unfold tH;dsimp only;refine t.dT ?_;split
 ·intro e he;rcases List.mem_append.1 he with he | he
  ·exact t.part _ e he
  ·rw [List.mem_singleton.1 he];exact ⟨t.tick,hv⟩
 ·exact t.part _
theorem fZ.ends (t:fZ s) {st:Int}:fZ (oK c s p st):=by
 unfold oK;dsimp only;have t1:fZ (s.ba p {s.proc p with state:=st,bB:=false}):=t.ba ⟨(t.proc p).aP,(t.proc p).iQ,(t.proc p).jg,(t.proc p).dP,(t.proc p).len⟩;generalize s.ba p {s.proc p with state:=st,bB:=false}=s1 at t1;have t2:fZ ⟨s1.tick,s1.part,λq=>if q<nQ c/\aG c q=aG c p then sP p (s1.proc q) else s1.proc q⟩:=⟨t1.tick,t1.part,λq=>by
  dsimp only;split
  ·refine ⟨(t1.proc q).aP,(t1.proc q).iQ,(t1.proc q).jg,λl f=> ?_,by show (List.map _ _).length<=_;rw [List.length_map];exact (t1.proc q).len⟩;obtain ⟨h,e,rfl⟩:=List.mem_map.1 f;have:=(t1.proc q).dP h e;exact ⟨this.1,λw g=>this.2 w (RC g)⟩
  ·exact t1.proc q⟩
 have b:=(t2.dT (i:=aG c p) (x:=(wU (↑p) (s1.part (aG c p))).1) (t1.part (aG c p))).nI (l:=(wU (↑p) (s1.part (aG c p))).2);generalize List.foldl jZ (MS.dT ⟨s1.tick,s1.part,λq=>if q<nQ c/\aG c q=aG c p then sP p (s1.proc q) else s1.proc q⟩ (aG c p) (wU (↑p) (s1.part (aG c p))).1) (wU (↑p) (s1.part (aG c p))).2=d at b;have a:fZ (d.ba p {d.proc p with timer:=0,bP:=0}):=b.ba ⟨(b.proc p).aP,i0,i0,(b.proc p).dP,(b.proc p).len⟩;generalize d.ba p {d.proc p with timer:=0,bP:=0}=j at a;refine fZ.tU i2 (a.ba ⟨(a.proc p).aP,(a.proc p).iQ,(a.proc p).jg,λl f=> ?_,by show (List.map _ _).length<=_;rw [List.length_map];exact (a.proc p).len⟩);obtain ⟨h,e,rfl⟩:=List.mem_map.1 f;exact ⟨((a.proc p).dP h e).1,λw g=>by cases g⟩
theorem YU {l:List df} {k:Core} {tk self:Int} (m:∀x∈l,cN x.gR) (d:∀v∈k.aP,cN v) (q:cN tk) (n:cN self):(∀v∈(ij fF l k tk self).1.aP,cN v)/\cN (ij fF l k tk self).2.value:=by
 unfold ij;split
 ·exact ⟨d,i0⟩
 ·rename_i x e;have j:cN x.gR:=by
   unfold iu at e;split at e
   ·exact m x (List.mem_of_getElem? e)
   ·cases e
  split
  ·exact ⟨d,i0⟩
  ·split
   ·rename_i w t a;refine ⟨by split<;>exact d,?_⟩;unfold mb at a;have r:=λi=>Gr (i:=i) d;have pick:∀ {o:Option (Want×Bool)} {v:Want} {b:Bool},o=some (v,b)->o=some (w,t)->cN v.value->cN w.value:=λ{o v b} g f h=>by rw [g] at f;cases f;exact h
    split at a
    ·exact pick rfl a i0
    split at a
    ·exact pick rfl a (r _)
    split at a
    ·exact pick rfl a i0
    split at a
    ·exact pick rfl a i0
    split at a
    ·exact pick rfl a (r _)
    split at a
    ·exact pick rfl a (r _)
    split at a
    ·exact pick rfl a i0
    split at a
    ·exact pick rfl a i0
    split at a
    ·exact pick rfl a (r _)
    cases a
   ·refine ⟨?_,i0⟩;show ∀v∈(Cy fF x k tk self).aP,cN v;unfold Cy;split
    ·exact C9 d j
    split
    ·exact C9 d (Gr d)
    split
    ·exact C9 d q
    split
    ·exact C9 d n
    split
    ·exact d
    split
    ·split
     ·exact d
     ·exact d
    ·exact C9 d (YQ (Gr d))
theorem fZ.R7 (t:fZ s) (f:∀x∈jq c p,cN x.gR) (hp:p<1000) (g:0<=s.tick/\s.tick<=4611686018427387904):fZ (ya c fF fl s p):=by
 unfold ya;dsimp only;obtain ⟨d,b⟩:=YU (l:=jq c p) (k:=(s.proc p).core) (tk:=s.tick) (self:=(p:Int)) f (t.proc p).aP t.tick (xz (by omega));have t1:=t.ba (p:=p) ((t.proc p).put d);have e:(s.ba p ((s.proc p).put (ij fF (jq c p) (s.proc p).core s.tick ↑p).1)).tick=s.tick:=rfl;generalize (ij fF (jq c p) (s.proc p).core s.tick ↑p).2=w at b;generalize s.ba p ((s.proc p).put (ij fF (jq c p) (s.proc p).core s.tick ↑p).1)=s1 at t1;have a:=t1.proc p;split
 ·exact t1.ends
 split
 ·exact t1.send b
 split
 ·exact t1.take
 split
 ·exact t1.take
 split
 ·refine t1.ba ⟨a.aP,?_,a.jg,a.dP,a.len⟩;show cN (if 0<w.value then s.tick+pO w.value 1099511627776 else 0);split
  ·unfold cN pO;split<;>omega
  ·exact i0
 split
 ·refine t1.ba ⟨a.aP,a.iQ,?_,a.dP,a.len⟩;show cN (s.tick+pO (wC w.value 1) 1099511627776);unfold cN pO wC;split<;>split<;>omega
 split
 ·unfold lj;dsimp only;split
  ·have t2:=t1.dT (i:=aG c p) (x:={s1.part (aG c p) with ax:=(s1.part (aG c p)).ax.set w.to.toNat p}) (t1.part _);exact t2.ba ((t2.proc p).put (t2.proc p).aP)
  ·refine (t1.dT ?_).ba ?_
   ·exact t1.part (aG c p)
   ·exact ⟨a.aP,a.iQ,a.jg,a.dP,a.len⟩
 split
 ·unfold Ao;dsimp only;split
  ·split
   ·exact t1.dT (t1.part (aG c p))
   ·refine (t1.dT ?_).given;exact t1.part (aG c p)
  ·exact t1
 split
 ·exact t1.out b
 exact t1
theorem fZ.due (t:fZ s) {i:Nat}:fZ (j6 c s i):=⟨t.tick,t.part,λq=>by
 show rV (if q<nQ c/\aG c q=i then ni s.tick (s.proc q) else s.proc q);have b:=t.proc q;split
 ·have a:rV (if 0<(s.proc q).bP/\(s.proc q).bP<=s.tick then {s.proc q with bP:=0,state:=0,pc:=(s.proc q).pc+1} else s.proc q):=by
   split
   ·exact ⟨b.aP,b.iQ,i0,b.dP,b.len⟩
   ·exact b
  unfold ni;dsimp only;generalize (if 0<(s.proc q).bP/\(s.proc q).bP<=s.tick then {s.proc q with bP:=0,state:=0,pc:=(s.proc q).pc+1} else s.proc q)=y at a;split
  ·exact ⟨a.aP,i0,a.jg,a.dP,a.len⟩
  ·exact a
 ·exact b⟩
theorem fZ.turns (d:∀p,∀x∈jq c p,cN x.gR) (f:nQ c<=1000) {i:Nat}:∀(n:Nat) {s:MS},fZ s->0<=s.tick/\s.tick<=4611686018427387904->fZ (pv c fF fl i n s)
 | 0,_,t,_=>t
 | n+1,s,t,e=>by
  unfold pv;split
  ·exact t
  ·rename_i a h;obtain ⟨b,_⟩:=OH h;have:(fo c i).getD a 0∈fo c i:=by rw [List.getD_eq_getElem?_getD,List.getElem?_eq_getElem b];exact List.getElem_mem b
   have g:=(gy.1 this).1;refine fZ.turns d f n ?_ (by unfold ma;rw [GR];exact e);unfold ma;refine fZ.R7 (t.dT ?_) (d _) (by omega) e;exact t.part i
theorem fZ.yA (t:fZ s) (b:∀p,∀x∈jq c p,cN x.gR) (d:nQ c<=1000) (e:0<=s.tick/\s.tick<=4611686018427387903) (a:(lY c fF fl s).tick=s.tick+1):fZ (lY c fF fl s):=by have t1:=fZ.turns (c:=c) (fl:=fl) b d (i:=nT c s.tick) c.fuel.toNat (s:=j6 c s (nT c s.tick)) t.due ⟨e.1,by show s.tick<=_;omega⟩;exact ⟨by rw [a];unfold cN;omega,t1.part,t1.proc⟩
theorem fZ.inj (t:fZ s) {q v:Int} (hv:cN v):fZ (uA c s q v).1:=by
 unfold uA;split
 ·exact t
 ·split
  ·exact t.ba (p:=q.toNat) ((t.proc q.toNat).lane (i:=nP c) (f:=lS) λl h=>h)
  ·exact t.ba (p:=q.toNat) ((t.proc q.toNat).lane (i:=nP c) (ER hv)).bP
theorem fZ.kill (t:fZ s) {q:Int}:fZ (jF c s q).1:=by
 unfold jF;split
 ·exact t
 ·exact t.ends
end
section
variable {h0 h1 k:Hp} {K:MK} {pm:Addr} {s:MS} {a:Nat->Nat->Int}
theorem BJ {p:Nat} {Q:Int->Hp->Prop} (hp:p<=1000) (b:Q ((2*p:Nat):Int) k):Rm prog (p:Int) Q k:=by unfold Rm;rw [aV,show (2:Int)*(p:Int)=((2*p:Nat):Int) by omega];exact b
theorem BK {p:Nat} {Q:Int->Hp->Prop} (hp:p<=1000) (b:Q ((2*p+1:Nat):Int) k):Rn prog (p:Int) Q k:=by unfold Rn;rw [wrap64 (show -9223372036854775808<=(2:Int)*p by omega) (by omega),aV,show (2:Int)*(p:Int)+1=((2*p+1:Nat):Int) by omega];exact b
theorem V6 {gs:List cZ} {sl:Sl} {Q:Hp->Prop} {rest:Hp->Prop} (m:eh h0 K) (o:Has h0 (aO K pm s a) k) (r:Rw h0 2 eG sl gs) (B:gs.length<=1000) (u:∀g∈gs,0<=g.cU->g.cU<(nQ K.c:Int))
  (x:∀q,q<nQ K.c->0<=(s.proc q).pc/\(s.proc q).pc<=2000) (v:∀b,Has h0 (aO K pm ((gs.map (·.cU)).foldl jZ s) a) b->rest b):
  aB (α1:=Int) (λl f i=>
 (if (decide (f<((sl.len:Nat):Int)))=true then
 ((bI sl.base sl.len f)/\aN none Rp i (sat sl.base 2 f) λA=>
 aM prog DY [(.pointer (some pm)),(.int .i64 A.cU)] (λp=>
 l (yw (f+(1:Int))) p) i)
 else rest i)) (0:Int) k:=by
 have D:=r.1;refine aB.intro (λ(t:Int) b=>0<=t/\t<=(gs.length:Int)/\Has h0 (aO K pm (((gs.map (·.cU)).take t.toNat).foldl jZ s) a) b) (λt _=>(gs.length-t).toNat) ⟨by omega,by omega,by simpa using o⟩ ?_;rintro t b ⟨z,t1,d⟩;by_cases h:t<(gs.length:Int)
 ·rw [if_pos (iW)];refine Rs.get (sh:=Rp) (Rw.mono d.le r) (λ_=>rfl) (by omega) z h λ(g:cZ) j=> ?_;have w:=List.mem_of_getElem? j;have hb:=FJ ((gs.map (·.cU)).take t.toNat) s g.cU.toNat;have C:((gs.map (·.cU)).take t.toNat).length<=1000:=by rw [List.length_take,List.length_map];omega
  refine UF (FH m d (λh0=> ?_) λE y=> ?_)
  ·have:=u g w h0;have:=x g.cU.toNat (by omega);omega
  ·rw [aV];refine ⟨⟨by omega,by omega,?_⟩,by omega⟩;have e:(t+1).toNat=t.toNat+1:=by omega
   have n:(gs.map (·.cU))[t.toNat]? =some g.cU:=by rw [List.getElem?_map,j];rfl
   rw [e,List.take_add_one,n];simpa using y
 ·rw [if_neg (λe=>h (by have:=of_decide_eq_true e;omega))];refine v b ?_;have e:t.toNat=gs.length:=by omega
  rw [e,List.take_of_length_le (by simp)] at d;exact d
theorem YV {b:List cd} {sl:Sl} {rest:Hp->Prop} (m:eh h0 K) (o:Has h0 (aO K pm s a) k) (r:Rw h0 2 eW sl b) (Q:b.length<=10000) (H:∀w∈b,0<=w.proc/\w.proc<(nQ K.c:Int))
  (J:∀q,q<nQ K.c->0<=(s.proc q).pc/\(s.proc q).pc<=4000) (I:∀d,Has h0 (aO K pm (b.foldl (λs w=>db K.c s w.proc.toNat 2) s) a) d->rest d):
  aB (α1:=Int) (λD n j=>
 (if (decide (n<((sl.len:Nat):Int)))=true then
 ((bI sl.base sl.len n)/\aN none aC j (sat sl.base 2 n) λC=>
 ah none (some pm) λM=>
 aN none aw j (Addr.add M 11) λy=>
 ((bI y.base y.len C.cU)/\aN none al j (sat y.base 1 C.cU) λP=>
 aM prog zZ [(.pointer (some pm)),(.pointer P),(.int .i64 (2:Int))] (λG=>
 D (yw (n+(1:Int))) G) j))
 else rest j)) (0:Int) k:=by
 have N:Rs h0 aC 2 sl (b.map qf):=r.map (f:=qf) (enc:=λx=>bA (aC.enc x));have S:=r.1;refine aB.intro (λ(t:Int) d=>0<=t/\t<=(b.length:Int)/\Has h0 (aO K pm ((b.take t.toNat).foldl (λs w=>db K.c s w.proc.toNat 2) s) a) d) (λt _=>(b.length-t).toNat) ⟨by omega,by omega,by simpa using o⟩ ?_;rintro t d ⟨O,t1,i⟩;by_cases h:t<(b.length:Int)
 ·rw [if_pos (iW)];refine Rs.get (sh:=aC) (N.mono i.le) (λ_=>rfl) (by omega) O (by rw [List.length_map];exact h) λ(g:bN) l=> ?_;obtain ⟨w,B,rfl⟩:∃w,b[t.toNat]? =some w/\qf w=g:=by
   rw [List.getElem?_map] at l;cases e:b[t.toNat]? with
   | none=>rw [e] at l;cases l
   | some w=>rw [e] at l;exact ⟨w,rfl,Option.some.inj l⟩
  have T:=H w (List.mem_of_getElem? B);have hb:=Lm (c:=K.c) (v:=2) (b.take t.toNat) s w.proc.toNat;have R:(b.take t.toNat).length<=10000:=by rw [List.length_take];omega
  have u:w.proc.toNat<nQ K.c:=by omega
  have F:((w.proc.toNat:Nat):Int)=w.proc:=by omega
  obtain ⟨z,A⟩:=m.ptr i u;rw [F] at z A;have E:(qf w).cU=w.proc:=rfl;rw [E];refine aJ (i.fu.ld (shf:=aw) K.x.procs rfl ⟨z,some (K.p w.proc.toNat),A,?_⟩);refine DR (FQ m i u ?_ λU L=> ?_)
  ·have:=J w.proc.toNat u;omega
  ·rw [aV];refine ⟨⟨by omega,by omega,?_⟩,by omega⟩;have e:(t+1).toNat=t.toNat+1:=by omega
   rw [e,List.take_add_one,B];simpa using L
 ·rw [if_neg (λe=>h (by have:=of_decide_eq_true e;omega))];refine I d ?_;have e:t.toNat=b.length:=by omega
  rw [e,List.take_of_length_le (by simp)] at i;exact i
end
section
variable {h0 h1 k:Hp} {K:MK} {pm:Addr} {s:MS} {d:Nat->Nat->Int}
theorem V7 {p i:Nat} {rest:Hp->Prop} (m:eh h0 K) (D:cP K.c) (o:Has h0 (aO K pm s d) k) (sa:∀q,q<nQ K.c->sZ K.c (s.proc q)) (hp:p<nQ K.c) (O:i<nP K.c)
  (P:∀j,Has h0 (aO K pm (nU p s (fo K.c i)) d) j->rest j):
  aB (α1:=Int) (λH u f=>
 (if (decide (u<(((K.own i).len:Nat):Int)))=true then
 ((bI (K.own i).base (K.own i).len u)/\aN none (af .i64) f (sat (K.own i).base 1 u) λF=>
 ah none (some pm) λZ=>
 aN none aw f (Addr.add Z 11) λy=>
 ((bI y.base y.len F)/\aN none al f (sat y.base 1 F) λx6=>
 ah none x6 λp7=>
 aN none al f (Addr.add p7 14) λx7=>
 ah none (some (K.p p)) λp8=>
 aN none (af .i64) f (Addr.add p8 0) λx8=>
 ae prog zqd [(.pointer x7),(.int .i64 x8)] bH (λr M=>
 H (yw (u+(1:Int))) M) f))
 else rest f)) (0:Int) k:=by
 have r:=m.own i O;have R:=r.1;rw [List.length_map] at R;have a8:(fo K.c i).length<=1000:=by have h1:(fo K.c i).length<=(List.range (nQ K.c)).length:=List.length_filter_le ..;rw [List.length_range] at h1;have:=D.procs;omega
 refine aB.intro (λ(t:Int) j=>0<=t/\t<=((fo K.c i).length:Int)/\Has h0 (aO K pm (nU p s ((fo K.c i).take t.toNat)) d) j) (λt _=>((fo K.c i).length-t).toNat) ⟨by omega,by omega,by
  have e:nU p s ((fo K.c i).take (0:Int).toNat)=s:=by unfold nU;simp
  rw [e];exact o⟩ ?_
 rintro t j ⟨t0,t1,n⟩;by_cases h:t<((fo K.c i).length:Int)
 ·rw [if_pos (iW)];refine Rs.get (sh:=af .i64) (r.mono n.le) (λ_=>rfl) (by omega) t0 (by grind) λ(g:Int) a9=> ?_;obtain ⟨q,w,rfl⟩:∃q:Nat,(fo K.c i)[t.toNat]? =some q/\(q:Int)=g:=by grind
  have S:=List.mem_of_getElem? w;have v:=(gy.1 S).1;have C:q∉(fo K.c i).take t.toNat:=by
   intro b0;have b3:=Pj (c:=K.c) (i:=i);obtain ⟨b2,N⟩:=List.getElem?_eq_some_iff.1 w;have b5:(fo K.c i)=(fo K.c i).take t.toNat++q::(fo K.c i).drop (t.toNat+1):=by rw [<-N,List.getElem_cons_drop,List.take_append_drop]
   grind
  obtain ⟨J,L⟩:=m.ptr n v;refine aJ (n.fu.ld (shf:=aw) K.x.procs rfl ⟨J,some (K.p q),L,?_⟩);obtain ⟨h2,z,a,l2,T,Y,E,put⟩:=n.pY v;have eq:z.post=some a:=T.2.2.2.2.2.2;refine aJ (Y.ld (shf:=al) z.post rfl ?_);obtain ⟨f,G,ap,l3,U,op,_⟩:=n.dX hp;refine aJ (op.ld (shf:=af .i64) G.dY rfl ?_);have I:G.dY=(p:Int):=U.1;rw [eq,I];have B:(nU p s ((fo K.c i).take t.toNat)).proc q=s.proc q:=if_neg C;rw [B] at E put;have sq:=sa q v;have b4:=D.parts;have b1:=sq.len;refine TS (VM E ⟨by omega,λl Q=>(sq.dP l Q).waiters⟩ λb V W=> ?_);have X:=put _ _ _ W;rw [aV];refine ⟨⟨by omega,by omega,?_⟩,by omega⟩;have e:(t+1).toNat=t.toNat+1:=by omega
  have A:=adR (p:=p) (s:=s) C;rw [B] at A;rw [e,List.take_add_one,w];show Has h0 (aO K pm (nU p s ((fo K.c i).take t.toNat++ [q])) d) V;rw [<-A];exact X
 ·rw [if_neg (λe=>h (by have:=of_decide_eq_true e;omega))];refine P j ?_;have e:t.toNat=(fo K.c i).length:=by omega
  grind
theorem Nl {q:Nat}:∀ {l:List Int} {s:MS},((l.foldl jZ s).proc q).ak=(s.proc q).ak
 | [],s=>rfl
 | a::l,s=>by
  rw [List.foldl_cons,Nl];unfold jZ;split
  ·unfold ry;by_cases e:q=a.toNat
   ·subst e;rw [gD];rfl
   ·rw [jN e]
  ·rfl
theorem MQ {a:Type} {f:a->Bool}:∀ {l:List a},(jo f l).length<=l.length
 | []=>Nat.le_refl _
 | b::l=>by have:=MQ (f:=f) (l:=l);unfold jo;grind
def uo (y:aj):aj:={y with timer:=0,bP:=0}
def xo (s:MS):MS:=⟨s.tick,s.part,λq=>uo (s.proc q)⟩
theorem Hz :aO K pm s d=aO K pm (xo s) d:=rfl
theorem HD {p:Nat} {y:aj}:xo (s.ba p y)=(xo s).ba p (uo y):=by unfold xo MS.ba;dsimp only;rw [XQ]
theorem adS {c:aL} {p:Nat} {v:Int}:xo (db c s p v)=db c (xo s) p v:=by unfold db;rw [HD];rfl
theorem D3 {c:aL} {v:Int}:∀ {l:List cd} {s:MS},xo (l.foldl (λs w=>db c s w.proc.toNat v) s)=l.foldl (λs w=>db c s w.proc.toNat v) (xo s)
 | [],s=>rfl
 | a::l,s=>by rw [List.foldl_cons,D3,adS,List.foldl_cons]
theorem V8 {p:Nat} (o:Has h0 (aO K pm (((s.proc p).ak.flatMap (·.waiters)).foldl (λs w=>db K.c s w.proc.toNat 2) (j8 s p)) d) k):Has h0 (aO K pm (tr K.c (iX s p) p) d) k:=by
 have a:((iX s p).proc p).ak=(s.proc p).ak:=by unfold iX;rw [gD]
 have b:xo (j8 (iX s p) p)=xo (j8 s p):=by unfold j8 iX;rw [gD,C0,HD,HD];rfl
 unfold tr;rw [a,Hz,D3,b,<-D3,<-Hz];exact o
def tu (d:Nat->Nat->Int) (i p:Nat):Nat->Nat->Int:=de d i (de (de (d i) (2*p) 0) (2*p+1) 0)
theorem Lr {p:Nat} {st:Int} {Q:Hp->Prop} (m:eh h0 K) (y:cP K.c) (o:Has h0 (aO K pm s d) k) (j:kN K.c s) (hp:p<nQ K.c)
  (M:∀t,Has h0 (aO K pm (oK K.c s p st) (tu d (aG K.c p) p)) t->Q t):Wy prog (some pm) (some (K.p p)) st Q k:=by
 unfold Wy;rw [Cc] at M;have r:aG K.c p<nP K.c:=y.fP;have i5:=y.procs;have i3:=y.parts;obtain ⟨h1,z,a,l1,T,oz,put⟩:=o.dX hp;refine aJ (o.fu.ld (shf:=aw) K.x.parts rfl ?_);refine aJ (oz.ld (shf:=af .i64) z.part rfl ?_);have ep:z.part=(aG K.c p:Int):=T.2.1;rw [ep];obtain ⟨g1,g2⟩:=m.wF o r;refine ⟨g1,some (K.q (aG K.c p)),g2,?_⟩;refine aJ (oz.st (qo z st) (by show 3+1<=15;omega) rfl λk1 o1=> ?_);refine aJ (o1.st (xk (qo z st) false) (by show 13+1<=15;omega) rfl λk2 o2=> ?_);have B:=put _ _ _ ((T.state st).bB false) rfl rfl o2;have B:Has h0 (aO K pm (gO s p st) d) k2:=B;obtain ⟨h2,x,lp,wp,l2,hx,ox,_⟩:=B.vK r;refine aJ (ox.ld (shf:=aw) x.procs rfl ?_);have ex:x.procs=K.own (aG K.c p):=hx.1;rw [ex];have b3:∀q,q<nQ K.c->sZ K.c ((gO s p st).proc q):=λq f=>by
  unfold gO;by_cases e:q=p
  ·subst e;rw [gD];have:=j.proc q f;exact ⟨this.pc,this.len,this.cur,this.dP⟩
  ·rw [jN e];exact j.proc q f
 have c4:∀q,((fh K.c s p st).proc q).pc=(s.proc q).pc:=λq=>by
  have h1:((gO s p st).proc q).pc=(s.proc q).pc:=by
   unfold gO;by_cases e:q=p
   ·subst e;rw [gD]
   ·rw [jN e]
  show (if q∈fo K.c (aG K.c p) then sP p ((gO s p st).proc q) else (gO s p st).proc q).pc=_;split<;>exact h1
 refine V7 m y B b3 hp r λk3 C=> ?_;have C:Has h0 (aO K pm (fh K.c s p st) d) k3:=C;obtain ⟨I,x4,d7,k0,l4,d0,e9,ol,b0⟩:=C.tI r;have el:x4.ag=some d7:=d0.2.2.2.2.1;obtain ⟨h5,z5,a5,l5,d5,f5,_⟩:=C.dX hp;refine aJ (e9.ld (shf:=al) x4.ag rfl ?_);refine aJ (f5.ld (shf:=af .i64) z5.dY rfl ?_);have ei:z5.dY=(p:Int):=d5.1;rw [el,ei];have v:=j.part _ r;have c0:(fh K.c s p st).part=s.part:=rfl;rw [c0] at ol b0;refine TU (Yr ol ⟨by have:=v.mI.1;omega,v.mI.2⟩ v.iZ (by omega) λsl k4 gs c3 o5=> ?_);have o6:Has h0 ((aO K pm (sc K.c (fh K.c s p st) p) d).star (ff 2 eG sl gs)) k4:=o5.carry λt F=>b0 _ _ t F;obtain ⟨J,W,o7,hr⟩:=o6.aside (λ_=>rfl);have X:=m.mono W;have L:=Ln (p:=(p:Int)) (os:=(s.part (aG K.c p)).ax) (qs:=(s.part (aG K.c p)).au.map (fJ p));have g9:gs.length<=8:=by have:=L.2;rw [<-c3,List.length_map,List.length_map] at this;have:=v.mI.1;omega
 have c7:∀g∈gs,0<=g.cU->g.cU<(nQ K.c:Int):=by
  intro g hg h0;have:g.cU∈(kB (p:Int) (s.part (aG K.c p)).ax ((s.part (aG K.c p)).au.map (fJ p))).2.2:=by grind
  rcases L.1 _ this with h | ⟨q,f,hm⟩
  ·omega
  ·obtain ⟨q',c5,rfl⟩:=List.mem_map.1 f;exact ((v.nd q' c5).2 _ (RC hm)).2
 have S:∀q,((sc K.c (fh K.c s p st) p).proc q).pc=(s.proc q).pc:=c4;refine V6 (Q:=Q) X o7 hr (by omega) c7 (λq f=> ?_) λk5 G=> ?_
 ·rw [S];have:=(j.proc q f).pc;omega
 have H:(gs.map (·.cU)).foldl jZ (sc K.c (fh K.c s p st) p)=j7 K.c (fh K.c s p st) p:=by show _=(kB (p:Int) ((fh K.c s p st).part (aG K.c p)).ax (((fh K.c s p st).part (aG K.c p)).au.map (fJ p))).2.2.foldl jZ _;grind
 rw [H] at G;have i4:∀q,q<nQ K.c->0<=((j7 K.c (fh K.c s p st) p).proc q).pc/\((j7 K.c (fh K.c s p st) p).proc q).pc<=2000:=λq f=>by have:=FJ (gs.map (·.cU)) (sc K.c (fh K.c s p st) p) q;rw [H,S,List.length_map] at this;have:=(j.proc q f).pc;omega
 have R:∀q,((j7 K.c (fh K.c s p st) p).proc q).ak=((fh K.c s p st).proc q).ak:=λq=>by unfold j7;rw [Nl];rfl
 generalize i6:j7 K.c (fh K.c s p st) p=b at*;obtain ⟨h7,x7,j0,g0,l7,d1,Z,ow,f8⟩:=G.jY r;have c1:x7.eM=some g0:=d1.2.2.2.2.2;obtain ⟨h8,z8,a8,l8,d6,f6,_⟩:=G.dX hp;refine aJ (Z.ld (shf:=al) x7.eM rfl ?_);refine aJ (f6.ld (shf:=af .i64) z8.dY rfl ?_);have b8:z8.dY=(p:Int):=d6.1;rw [b8];refine Mo (BJ (by omega) ?_);refine ⟨⟨Z.fG (n:=1) rfl,trivial⟩,?_⟩;rw [c1];refine LW (E2 ow (by omega) λb1 k6 o9=> ?_);have Y:=f8 _ _ o9;obtain ⟨h9,x9,j1,g3,l9,d2,a9,e7,f9⟩:=Y.jY r;have c2:x9.eM=some g3:=d2.2.2.2.2.2;obtain ⟨g5,b4,g4,i7,d3,f0,_⟩:=Y.dX hp;refine aJ (a9.ld (shf:=al) x9.eM rfl ?_);refine aJ (f0.ld (shf:=af .i64) b4.dY rfl ?_);have b7:b4.dY=(p:Int):=d3.1;rw [b7];refine Mq (BK (by omega) ?_);refine ⟨⟨a9.fG (n:=1) rfl,trivial⟩,?_⟩;rw [c2];refine LW (E2 e7 (by omega) λb2 k7 d8=> ?_);have A:=f9 _ _ d8;rw [mz,Qg] at A;have A:Has J (aO K pm b (tu d (aG K.c p) p)) k7:=A;obtain ⟨g6,b5,b6,i9,d4,f4,e5,f7⟩:=A.pY hp;have b9:b5.post=some b6:=d4.2.2.2.2.2.2;refine aJ (f4.ld (shf:=al) b5.post rfl ?_);rw [b9];have j2:=b3 p hp;have P:∀l∈(b.proc p).ak,∃u∈(s.proc p).ak,l.waiters.length<=u.waiters.length/\∀w∈l.waiters,w∈u.waiters:=by
  intro l i;rw [R] at i;have D:((gO s p st).proc p).ak=(s.proc p).ak:=by unfold gO;rw [gD]
  have N:l∈(if p∈fo K.c (aG K.c p) then sP p ((gO s p st).proc p) else (gO s p st).proc p).ak:=i;rw [if_pos (gy.2 ⟨hp,rfl⟩)] at N;obtain ⟨l0,O,rfl⟩:=List.mem_map.1 N;rw [D] at O;exact ⟨l0,O,MQ,λw E=>RC E⟩
 have h4:(b.proc p).ak.length=nP K.c+1:=by
  rw [R];have D:((gO s p st).proc p).ak=(s.proc p).ak:=by unfold gO;rw [gD]
  show (if p∈fo K.c (aG K.c p) then sP p ((gO s p st).proc p) else (gO s p st).proc p).ak.length=_;rw [if_pos (gy.2 ⟨hp,rfl⟩)];show (List.map _ _).length=_;rw [List.length_map,D];exact (j.proc p hp).len
 have c8:∀l∈(b.proc p).ak,l.waiters.length<=100:=λl i=>by obtain ⟨u,h1,h2,_⟩:=P l i;have:=((j.proc p hp).dP u h1).waiters;omega
 refine Vg (aaL e5 ⟨by omega,c8⟩ λsw k8 d9=> ?_);have e0:Has J ((aO K pm (j8 b p) (tu d (aG K.c p) p)).star (ff 2 eW sw ((b.proc p).ak.flatMap (·.waiters)))) k8:=d9.carry λt F=>f7 _ _ t F;obtain ⟨g7,V,e2,c6⟩:=e0.aside (λ_=>rfl);have g8:((b.proc p).ak.flatMap (·.waiters)).length<=900:=by
  have key:∀(m:List aX),(∀l∈m,l.waiters.length<=100)->(m.flatMap (·.waiters)).length<=m.length*100:=λm=>by
   induction m with
   | nil=>intro _;simp
   | cons a m ih=>intro h;have:=ih λl i=>h l (List.mem_cons_of_mem _ i);have:=h a (List.mem_cons_self ..);simp only [List.flatMap_cons,List.length_append,List.length_cons];omega
  grind
 refine YV (X.mono V) e2 c6 (by omega) (λw E=> ?_) (λq f=> ?_) λU e3=>M U ?_
 ·obtain ⟨l,i,c9⟩:=List.mem_flatMap.1 E;obtain ⟨u,h1,_,I⟩:=P l i;exact ((j.proc p hp).dP u h1).my w (I w c9)
 ·have e6:((j8 b p).proc q).pc=(b.proc q).pc:=by
   unfold j8;by_cases e:q=p
   ·subst e;rw [gD]
   ·rw [jN e]
  grind
 · -- timers are in the eM alone
  have e4:Has h0 (aO K pm (((b.proc p).ak.flatMap (·.waiters)).foldl (λs w=>db K.c s w.proc.toNat 2) (j8 b p)) (tu d (aG K.c p) p)) U:=e3.mono (Hp.le_trans W V);exact V8 e4
end
theorem TT {b:Type} {l:List b} {n:Nat} {f:b->b} {a:b} (h:l[n]? =some a):l.modify n f=l.set n (f a):=by refine List.ext_getElem? λj=> ?_;grind
theorem M0 {a b:Int}:jV a b=pO a b:=by unfold jV pO;omega
theorem aaY {a b:Int}:rD a b=wC a b:=by unfold rD wC;omega
section
variable {h0 h1 k:Hp} {K:MK} {pm:Addr} {s:MS} {d:Nat->Nat->Int}
def yB (d:Nat->Nat->Int) (i p:Nat) (t v:Int):Nat->Nat->Int:=de d i (de (d i) (2*p) (if 0<v then t+pO v 1099511627776 else 0))
theorem V9 {p:Nat} {v:Int} {Q:Hp->Prop} (m:eh h0 K) (w:cP K.c) (o:Has h0 (aO K pm s d) k) (hp:p<nQ K.c) (ht:0<=s.tick/\s.tick<=4611686018427387904)
  (j:∀u,Has h0 (aO K pm (s.ba p {s.proc p with bB:=false}) (yB d (aG K.c p) p s.tick v)) u->Q u):
 ah none (some (K.p p)) λp8=>
 cX k (Addr.add p8 13) [(.bool false)] (λi=>
 ah none (some (K.q (aG K.c p))) λE=>
 aN none al i (Addr.add E 6) λe=>
 ah none (some (K.p p)) λZ=>
 aN none (af .i64) i (Addr.add Z 0) λx8=>
 ae prog Ae [(.int .i64 x8)] (af .i64) (λr2 l=>
 (((aZ l (Addr.add E 6) [(.pointer e)])/\True)/\ae prog D4 [(.pointer e),(.int .i64 r2)] bH (λr3 b=>
 (if (decide (v>(0:Int)))=true then
 ah none (some (K.q (aG K.c p))) λC=>
 aN none al b (Addr.add C 6) λf=>
 ah none (some (K.p p)) λa8=>
 aN none (af .i64) b (Addr.add a8 0) λb4=>
 ah none (some pm) λD=>
 aN none (af .i64) b (Addr.add D 9) λF=>
 ae prog Ae [(.int .i64 b4)] (af .i64) (λr4 g=>
 (((aZ g (Addr.add C 6) [(.pointer f)])/\((aZ g (Addr.add D 9) [(.int .i64 F)])/\(True/\True)))/\ae prog Ac [(.pointer f),(.int .i64 r4),(.int .i64 (yw (F+(jV v (1099511627776:Int)))))] (af .i64) (λr5 M=>
 Q M) g)) b
 else
 Q b)) l)) i):=by
  have r:aG K.c p<nP K.c:=w.fP;have b8:=w.procs;obtain ⟨h1,z,a,l1,t,X,put⟩:=o.dX hp;refine aJ (X.st (xk z false) (by show 13+1<=15;omega) rfl λk2 y=> ?_);have T:=put _ _ _ (t.bB false) rfl rfl y;obtain ⟨g,e,c0,b2,l7,N,A,V,a9⟩:=T.jY r;have J:e.eM=some b2:=N.2.2.2.2.2;refine aJ (A.ld (shf:=al) e.eM rfl ?_);refine aJ (y.ld (shf:=af .i64) z.dY rfl ?_);have I:z.dY=(p:Int):=t.1;rw [I];refine Mo (BJ (by omega) ?_);refine ⟨⟨A.fG (n:=1) rfl,trivial⟩,?_⟩;rw [J];refine LW (E2 V (by omega) λb1 k6 U=> ?_);have h:=a9 _ _ U;unfold yB at j;by_cases hv:0<v
  ·rw [if_pos (decide_eq_true hv)];rw [if_pos hv] at j;obtain ⟨h9,f,c1,b3,l9,O,B,W,b0⟩:=h.jY r;have L:f.eM=some b3:=O.2.2.2.2.2;obtain ⟨b6,G,b5,b9,P,Y,_⟩:=h.dX hp;refine aJ (B.ld (shf:=al) f.eM rfl ?_);refine aJ (Y.ld (shf:=af .i64) G.dY rfl ?_);have H:G.dY=(p:Int):=P.1;rw [H];refine aJ (h.fu.ld (shf:=af .i64) s.tick rfl ?_);refine Mo (BJ (by omega) ?_);refine ⟨⟨B.fG (n:=1) rfl,h.fu.fG (n:=1) rfl,trivial,trivial⟩,?_⟩;have b7:0<pO v 1099511627776/\pO v 1099511627776<=1099511627776:=by unfold pO;split<;>omega
   rw [L,M0,aV];refine YG (Gl W (by omega) (by omega) (by omega) λR S=>j R ?_);have x:=b0 _ _ S;rw [mz,Qg,Qg] at x;exact x
  grind
theorem Wa {p:Nat} {v:Int} {Q:Hp->Prop} (m:eh h0 K) (g:cP K.c) (o:Has h0 (aO K pm s d) k) (hp:p<nQ K.c) (X:0<=s.tick/\s.tick<=4611686018427387904)
  (A:∀f,Has h0 (aO K pm (s.ba p {s.proc p with state:=4}) (de d (aG K.c p) (de (d (aG K.c p)) (2*p+1) (s.tick+pO (wC v 1) 1099511627776)))) f->Q f):
 ah none (some (K.q (aG K.c p))) λj=>
 aN none al k (Addr.add j 6) λl=>
 ah none (some (K.p p)) λN=>
 aN none (af .i64) k (Addr.add N 0) λR=>
 ah none (some pm) λi=>
 aN none (af .i64) k (Addr.add i 9) λb=>
 ae prog Bb [(.int .i64 R)] (af .i64) (λr2 e=>
 (((aZ e (Addr.add j 6) [(.pointer l)])/\((aZ e (Addr.add i 9) [(.int .i64 b)])/\(True/\True)))/\ae prog Ac [(.pointer l),(.int .i64 r2),(.int .i64 (yw (b+(jV (rD v (1:Int)) (1099511627776:Int)))))] (af .i64) (λr3 w=>
 ah none (some (K.p p)) λM=>
 cX w (Addr.add M 3) [(.int .i64 (4:Int))] (λx=>
 Q x)) e)) k:=by
  have y:aG K.c p<nP K.c:=g.fP;have W:=g.procs;obtain ⟨U,b,a9,P,l9,B,h,I,O⟩:=o.jY y;have u:b.eM=some P:=B.2.2.2.2.2;obtain ⟨T,r,S,a8,D,L,_⟩:=o.dX hp;refine aJ (h.ld (shf:=al) b.eM rfl ?_);refine aJ (L.ld (shf:=af .i64) r.dY rfl ?_);have t:r.dY=(p:Int):=D.1;rw [t];refine aJ (o.fu.ld (shf:=af .i64) s.tick rfl ?_);refine Mq (BK (by omega) ?_);refine ⟨⟨h.fG (n:=1) rfl,o.fu.fG (n:=1) rfl,trivial,trivial⟩,?_⟩;have V:0<pO (wC v 1) 1099511627776/\pO (wC v 1) 1099511627776<=1099511627776:=by unfold pO wC;omega
  rw [u,M0,aaY,aV];refine YG (Gl I (by omega) (by omega) (by omega) λY F=> ?_);have G:=O _ _ F;obtain ⟨h1,z,a,Z,C,J,put⟩:=G.dX hp;exact aJ (J.st (qo z 4) (by show 3+1<=15;omega) rfl λE H=>A E (put _ _ _ (C.state 4) rfl rfl H))
theorem YW {p:Nat} {n:Int} {Q:Hp->Prop} (m:eh h0 K) (mc:cP K.c) (o:Has h0 (aO K pm s d) k) (H:kN K.c s) (hp:p<nQ K.c) (hn:0<=n/\n<K.c.ag) (S:∀q∈(s.part (aG K.c p)).au,(p:Int)∉q)
  (h:∀E,Has h0 (aO K pm (lj K.c s p n) d) E->Q E):
 ah none (some (K.q (aG K.c p))) λp8=>
 aN none al k (Addr.add p8 5) λx7=>
 ah none (some (K.p p)) λp9=>
 aN none (af .i64) k (Addr.add p9 0) λx8=>
 bt prog Q9 [(.pointer x7),(.int .i64 n),(.int .i64 x8)] bH (af .i64) (λr2 r3 g=>
 (if r2=true then
 ah none (some (K.p p)) λi=>
 aN none fM g (Addr.add i 4) λC=>
 ae prog Ag [C.v] fM (λb f=>
 ah none (some (K.p p)) λB=>
 cX f (Addr.add B 4) [(.int .i64 b.PC),(.int .i64 b.cl),(.int .i64 b.cm),(.int .i64 b.cn),(.int .i64 b.cp),(.int .i64 b.cq),(.int .i64 b.cv),(.int .i64 b.cw),(.int .i64 b.cC)] (λr=>
 Q r)) g
 else
 ah none (some (K.p p)) λi=>
 cX g (Addr.add i 3) [(.int .i64 (3:Int))] (λf=>
 Q f))) k:=by
  have D:aG K.c p<nP K.c:=mc.fP;have l:=H.part _ D;have b3:=l.jQ;have b2:=l.iZ;obtain ⟨h3,I,Z,b5,l4,T,a8,ol,G⟩:=o.tI D;have N:I.ag=some Z:=T.2.2.2.2.1;obtain ⟨b1,J,b0,b4,U,a9,_⟩:=o.dX hp;refine aJ (a8.ld (shf:=al) I.ag rfl ?_);refine aJ (a9.ld (shf:=af .i64) J.dY rfl ?_);have M:J.dY=(p:Int):=U.1;rw [N,M];have R:n.toNat<(s.part (aG K.c p)).au.length:=by omega
  have O:((n.toNat:Nat):Int)=n:=by omega
  have u:=List.getElem?_eq_getElem R;have t:=List.getElem?_eq_getElem (show n.toNat<(s.part (aG K.c p)).ax.length by omega);generalize (s.part (aG K.c p)).au[n.toNat]=q at u;generalize (s.part (aG K.c p)).ax[n.toNat]=ow at t;unfold lj at h;dsimp only at h;rw [rM t,TT u] at h;have key:=VS (n:=n.toNat) (w:=(p:Int)) (Q:=λr2 (r3:Int) g=>(if r2=true then
 ah none (some (K.p p)) λi=>
 aN none fM g (Addr.add i 4) λC=>
 ae prog Ag [C.v] fM (λb f=>
 ah none (some (K.p p)) λB=>
 cX f (Addr.add B 4) [(.int .i64 b.PC),(.int .i64 b.cl),(.int .i64 b.cm),(.int .i64 b.cn),(.int .i64 b.cp),(.int .i64 b.cq),(.int .i64 b.cv),(.int .i64 b.cw),(.int .i64 b.cC)] (λr=>
 Q r)) g
 else
 ah none (some (K.p p)) λi=>
 cX g (Addr.add i 3) [(.int .i64 (3:Int))] (λf=>
 Q f))) ol ⟨by have:=l.mI.1;omega,l.mI.2⟩ S (by omega) t u (λf V y=> ?_) λf V y=> ?_
  ·rw [O] at key;exact S5 key
  ·dsimp only;rw [if_pos rfl];rw [if_pos f] at h;have j:=G _ _ _ y;obtain ⟨h1,z,a,Y,x,A,put⟩:=j.dX hp;have e:hH (fb z)=(s.proc p).core:=x.2.2.2.2.1;have P:(fb z).PC=(s.proc p).pc:=congrArg Core.pc e;refine aJ (A.ld (shf:=fM) (fb z) rfl ?_);refine EL (uZ (by rw [P];exact H.told hp) λc' L=> ?_);refine aJ (zg j hp λX F=>h X ?_);rw [L,e] at F;exact F
  ·dsimp only;rw [if_neg (by decide)];rw [if_neg f] at h;have j:=G _ _ _ y;obtain ⟨h1,z,a,Y,x,A,put⟩:=j.dX hp;exact aJ (A.st (qo z 3) (by show 3+1<=15;omega) rfl λW o4=>h W (put _ _ _ (x.state 3) rfl rfl o4))
theorem Lt {w:Int}:∀ {os:List Int} {i j:Nat},os[j]? =some w->((i+j:Nat):Int)∈hold w os i
 | [],_,j,h=>by simp at h
 | o::r,i,0,h=>by unfold hold;grind
 | o::r,i,j+1,h=>by have a:=Lt (i:=i+1) (j:=j) (os:=r) (w:=w) (by simpa using h);rw [show i+1+j=i+(j+1) by omega] at a;unfold hold;grind
theorem TV {p:Nat} {n:Int} {Q:Hp->Prop} (m:eh h0 K) (mc:cP K.c) (o:Has h0 (aO K pm s d) k) (O:kN K.c s) (hp:p<nQ K.c) (hn:0<=n/\n<K.c.ag)
  (f:∀y,Has h0 (aO K pm (Ao K.c s p n) d) y->Q y):
 ah none (some (K.q (aG K.c p))) λp8=>
 aN none al k (Addr.add p8 5) λx7=>
 ah none (some (K.p p)) λp9=>
 aN none (af .i64) k (Addr.add p9 0) λx8=>
 ae prog Q1 [(.pointer x7),(.int .i64 x8)] aw (λr2 D=>
 ((True/\True)/\ae prog QM [r2.v,(.int .i64 n)] bH (λr3 b=>
 (if r3=true then
 ah none (some (K.q (aG K.c p))) λc1=>
 aN none al b (Addr.add c1 5) λx9=>
 ah none (some (K.p p)) λc2=>
 aN none (af .i64) b (Addr.add c2 0) λc4=>
 bt prog Mi [(.pointer x9),(.int .i64 n),(.int .i64 c4)] (af .i64) (af .i64) (λI r5 g=>
 aM prog DY [(.pointer (some pm)),(.int .i64 I)] (λE=>
 Q E) g) b
 else
 Q b)) D)) k:=by
  have F:aG K.c p<nP K.c:=mc.fP;have C:=O.part _ F;have d2:=C.jQ;have d1:=C.iZ;have d0:=C.mI.1;obtain ⟨h3,R,b5,d7,l4,b1,b8,ol,c3⟩:=o.tI F;have W:R.ag=some b5:=b1.2.2.2.2.1;obtain ⟨c7,S,c5,d3,b2,b9,_⟩:=o.dX hp;refine aJ (b8.ld (shf:=al) R.ag rfl ?_);refine aJ (b9.ld (shf:=af .i64) S.dY rfl ?_);have U:S.dY=(p:Int):=b2.1;rw [W,U];have a9:n.toNat<(s.part (aG K.c p)).au.length:=by omega
  have Y:((n.toNat:Nat):Int)=n:=by omega
  have x:=List.getElem?_eq_getElem a9;have u:=List.getElem?_eq_getElem (show n.toNat<(s.part (aG K.c p)).ax.length by omega);generalize (s.part (aG K.c p)).au[n.toNat]=q at x;generalize (s.part (aG K.c p)).ax[n.toNat]=M at u;unfold Ao at f;dsimp only at f;rw [rM u,rM x] at f;refine zpt (PL ol (by omega) (by omega) λsl G l=> ?_);have o3:Has h0 ((aO K pm s d).star (ff 1 fX sl (hold (p:Int) (s.part (aG K.c p)).ax 0))) G:=l.carry λy o'=>by
   have D:=c3 _ _ y o';have e:s.dT (aG K.c p) {s.part (aG K.c p) with ax:=(s.part (aG K.c p)).ax,au:=(s.part (aG K.c p)).au}=s:=FI
   rwa [e] at D
  obtain ⟨g,A,B,hr⟩:=o3.aside (λ_=>rfl);refine ⟨⟨trivial,trivial⟩,?_⟩;have a8:(hold (p:Int) (s.part (aG K.c p)).ax 0).length<=1000000:=by
   have:∀(os:List Int) (i:Nat),(hold (p:Int) os i).length<=os.length:=by
    intro os
    induction os with
    | nil=>intro i;exact Nat.le_refl _
    | cons a r ih=>intro i;have:=ih (i+1);unfold hold;split<;>simp<;>omega
   grind
  refine zjm (Nj (Rw.mono B.le hr) a8 ?_);have J:n∈hold (p:Int) (s.part (aG K.c p)).ax 0↔M=(p:Int):=by
   constructor
   ·intro h;obtain ⟨j,e1,e2⟩:=wO h;grind
   ·intro h;subst h;have:=Lt (i:=0) u;grind
  by_cases h:M=(p:Int)
  ·rw [if_pos (decide_eq_true (J.2 h))];rw [if_pos h] at f;subst h;have L:=m.mono A;obtain ⟨c8,P,b4,d6,d4,b0,b7,b6,N⟩:=B.tI F;have X:P.ag=some b4:=b0.2.2.2.2.1;obtain ⟨c9,T,c6,d5,b3,c0,_⟩:=B.dX hp;refine aJ (b7.ld (shf:=al) P.ag rfl ?_);refine aJ (c0.ld (shf:=af .i64) T.dY rfl ?_);have V:T.dY=(p:Int):=b3.1;rw [X,V];have key:=Lc (n:=n.toNat) (w:=(p:Int)) (Q:=λI (r5:Int) g=>aM prog DY [(.pointer (some pm)),(.int .i64 I)] (λE=>Q E) g) b6 (by omega) u x (λb G l=> ?_) λa r b G l=> ?_
   ·rw [Y] at key;exact zrl key
   ·subst b;have H:=N _ _ _ l;refine UF (FH L H (λh=>absurd h (by decide)) λz t=> ?_);have t:Has g (aO K pm (s.dT (aG K.c p) {s.part (aG K.c p) with ax:=(s.part (aG K.c p)).ax.set n.toNat (-1),au:=(s.part (aG K.c p)).au}) d) z:=t;exact f z (t.mono A)
   ·subst b;have H:=N _ _ _ l;have Z:0<=a/\a<(nQ K.c:Int):=(C.nd _ (List.mem_of_getElem? x)).2 a (List.mem_cons_self ..);refine UF (FH L H (λh=>⟨Z.2,?_⟩) λz t=>f z (t.mono A));exact O.told (by omega)
  ·rw [if_neg (λe=>h (J.1 (of_decide_eq_true e)))];rw [if_neg h] at f;exact f _ (B.mono A)
theorem aa1 {p:Nat} {v:Int} {Q:Hp->Prop} (m:eh h0 K) (S:cP K.c) (o:Has h0 (aO K pm s d) k) (sa:kN K.c s) (hp:p<nQ K.c)
  (f:∀J,Has h0 (aO K pm (tH K.c s p v) d) J->Q J):
 ah none (some (K.q (aG K.c p))) λY=>
 aN none aw k (Addr.add Y 2) λx7=>
 ah none (some pm) λZ=>
 aN none (af .i64) k (Addr.add (Addr.add Z 0) 5) λx8=>
 (if (decide (((x7.len:Nat):Int)<x8))=true then
 ah none (some (K.q (aG K.c p))) λy=>
 aN none aw k (Addr.add y 2) λA=>
 ah none (some pm) λF=>
 aN none (af .i64) k (Addr.add F 9) λa9=>
 ah none (some (K.p p)) λX=>
 aN none (af .i64) k (Addr.add X 0) λb0=>
 bc [(.int .i64 a9),(.int .i64 b0),(.int .i64 v)] (λa r=>
 (((aZ r (Addr.add y 2) [A.v])/\True)/\eC 3 24 [(.int .i64 (0:Int)),(.int .i64 (0:Int)),(.int .i64 (0:Int))] A ⟨(some a),1,1⟩ (λr2 g=>
 ah none (some (K.q (aG K.c p))) λG=>
 cX g (Addr.add G 2) [r2.v] (λi=>
 Q i)) r)) k
 else
 ah none (some (K.q (aG K.c p))) λy=>
 aN none (af .i64) k (Addr.add y 3) λA=>
 ae prog Rq [(.int .i64 A)] (af .i64) (λr2 r=>
 ah none (some (K.q (aG K.c p))) λF=>
 cX r (Addr.add F 3) [(.int .i64 r2)] (λg=>
 Q g)) k):=by
  have I:aG K.c p<nP K.c:=S.fP;have M:=sa.part _ I;have b1:=M.lR;obtain ⟨h1,x,lp,wp,l1,j,u,put⟩:=o.tJ I;have w:=Has.left u;refine aJ (w.ld (shf:=aw) x.log rfl ?_);have B:(Dj K.x).Log=K.c.log:=m.cfg.log;have B:K.x.iL=K.c.log:=B;refine aJ ?_;rw [vV];refine o.fu.ld (shf:=af .i64) K.x.iL rfl ?_;have O:=u.right.left.jR;unfold tH at f;dsimp only at f;rw [B,O];by_cases h:((s.part (aG K.c p)).log.length:Int)<K.c.log
  ·rw [if_pos (decide_eq_true h)];rw [if_pos h] at f;obtain ⟨h2,z,a,l2,P,W,_⟩:=o.dX hp;refine aJ (w.ld (shf:=aw) x.log rfl ?_);refine aJ (o.fu.ld (shf:=af .i64) s.tick rfl ?_);refine aJ (W.ld (shf:=af .i64) z.dY rfl ?_);have N:z.dY=(p:Int):=P.1;rw [N];obtain ⟨h3,l3,T,a8⟩:=u.f2;have key:=T.push (sz:=3) (zero:=[(.int .i64 (0:Int)),(.int .i64 (0:Int)),(.int .i64 (0:Int))]) (bytes:=24) (e:=(⟨s.tick,(p:Int),v⟩:qS)) (cs:=[(.int .i64 s.tick),(.int .i64 (p:Int)),(.int .i64 v)]) rfl (λ_=>rfl) (λ_=>rfl) rfl ⟨by omega,by omega⟩
    (K:=λr2 g=>ah none (some (K.q (aG K.c p))) λG=>
 cX g (Addr.add G 2) [r2.v] (λi=>
 Q i)) λL k2 U=> ?_
   ·exact λb t hb=>⟨⟨nE (mY hb) (w.fG (n:=1) rfl),trivial⟩,key b t hb⟩
   ·have V:=a8 _ _ U;obtain ⟨i,R,C,H⟩:=V.f1;refine aJ (C.st (⟨x.procs,x.ai,L,x.lost,x.forbidden,x.ag,x.eM⟩:bw) (by show 2+1<=7;omega) rfl λl D=>f l ?_);have E:=H _ _ D;have:=put (⟨x.procs,x.ai,L,x.lost,x.forbidden,x.ag,x.eM⟩:bw) {s.part (aG K.c p) with log:=(s.part (aG K.c p)).log++ [⟨s.tick,(p:Int),v⟩]} (d (aG K.c p)) l j E;rw [BV] at this;exact this
  ·rw [if_neg (λe=>h (of_decide_eq_true e))];rw [if_neg h] at f;refine aJ (w.ld (shf:=af .i64) x.lost rfl ?_);have ex:x.lost=(s.part (aG K.c p)).lost:=j.2.2.1;rw [ex];refine zxh (Lg M.lost ?_);obtain ⟨i,R,C,H⟩:=u.f1;refine aJ (C.st (⟨x.procs,x.ai,x.log,more (s.part (aG K.c p)).lost,x.forbidden,x.ag,x.eM⟩:bw) (by show 3+1<=7;omega) rfl λl D=>f l ?_);have E:=H _ _ D;have:=put (⟨x.procs,x.ai,x.log,more (s.part (aG K.c p)).lost,x.forbidden,x.ag,x.eM⟩:bw) {s.part (aG K.c p) with lost:=more (s.part (aG K.c p)).lost} (d (aG K.c p)) l ⟨j.1,j.2.1,rfl,j.2.2.2⟩ E;rw [BV] at this;exact this
end
def pw (c:aL) (s:MS) (i id:Nat):Int:=if id / 2<nQ c/\aG c (id / 2)=i then (if id%2=0 then (s.proc (id / 2)).timer else (s.proc (id / 2)).bP) else 0
def fS (c:aL) (a:Nat->Nat->Int) (s:MS):Prop:=∀i id,i<nP c->a i id=pw c s i id
def TW (s:MS):Nat->Int×Int:=λq=>((s.proc q).timer,(s.proc q).bP)
section
variable {c:aL} {s s':MS} {b:Nat->Nat->Int} {p:Nat} {y:aj}
theorem ur (h:(y.timer,y.bP)=((s.proc p).timer,(s.proc p).bP)):TW (s.ba p y)=TW s:=by
 funext q;unfold TW;by_cases e:q=p
 ·subst e;rw [gD,h]
 ·rw [jN e]
theorem ub {v:Int}:TW (db c s p v)=TW s:=ur rfl
theorem aa3 :TW (ry s p)=TW s:=ur rfl
theorem Lv {my:Int}:TW (jZ s my)=TW s:=by
 unfold jZ;split
 ·exact aa3
 ·rfl
theorem G7 {q:Nat} (h:(y.timer,y.bP)=((s.proc q).timer,(s.proc q).bP)):TW (s.ba q (fq y))=TW s:=ur h
theorem aa5 {to v:Int} {fl:Nat->Nat->Bool}:TW (lW c fl s p to v)=TW s:=by
 unfold lW;split
 ·exact ub
 split
 ·exact ub
 split
 ·split
  ·exact ub
  split
  ·dsimp only;have e:TW (s.ba to.toNat (cf (s.proc to.toNat) (aG c p) (iS p v)))=TW s:=ur rfl;rw [<-e];exact ur rfl
  ·rw [ub];exact G7 rfl
 split
 ·rw [ub];exact ur rfl
 ·rw [ub];exact G7 rfl
theorem M3 {t:Bool}:TW (lr c s p t)=TW s:=by
 unfold lr;dsimp only;split
 ·split
  ·exact ur rfl
  ·rw [ub];exact ur rfl
 ·split
  ·exact ur rfl
  split
  ·exact ur rfl
  ·exact ur rfl
theorem aa7 {n:Int}:TW (lj c s p n)=TW s:=by
 unfold lj;dsimp only;split
 ·unfold lj.goK;exact ur rfl
 ·exact ur rfl
theorem Wb {n:Int}:TW (Ao c s p n)=TW s:=by
 unfold Ao;dsimp only;split
 ·split
  ·rfl
  ·exact Lv
 ·rfl
theorem aci {v:Int}:TW (tH c s p v)=TW s:=rfl
theorem fS.bO (t:fS c b s) (h:TW s'=TW s):fS c b s':=λi id e=>by have:=congrFun h (id / 2);have a:(s'.proc (id / 2)).timer=(s.proc (id / 2)).timer:=congrArg Prod.fst this;have d:(s'.proc (id / 2)).bP=(s.proc (id / 2)).bP:=congrArg Prod.snd this;rw [t i id e];unfold pw;rw [a,d]
theorem fS.set (t:fS c b s) (hp:p<nQ c) {id:Nat} {v:Int} (hid:id=2*p\/id=2*p+1) (h:∀q,TW s' q=if q=p then (if id=2*p then (v,(s.proc p).bP) else ((s.proc p).timer,v)) else TW s q):fS c (de b (aG c p) (de (b (aG c p)) id v)) s':=λi a k=>by
 have d:=h (a / 2);by_cases e:a / 2=p
 ·rw [if_pos e] at d;unfold pw;by_cases g:aG c p=i
  ·subst g;rw [mz];have f:=t _ a k;unfold pw at f;rw [if_pos ⟨by omega,by rw [e]⟩] at f ⊢;rcases hid with rfl | rfl
   ·rw [if_pos rfl] at d;by_cases j:a=2*p
    ·subst j;rw [mz,if_pos (by omega)];exact (congrArg Prod.fst d).symm
    ·rw [mn j,if_neg (by omega)];rw [qt] at f;rw [f,e];rw [e] at d;exact (congrArg Prod.snd d).symm
   ·rw [qt] at d;by_cases j:a=2*p+1
    ·subst j;rw [mz,if_neg (by omega)];exact (congrArg Prod.snd d).symm
    ·rw [mn j,if_pos (by omega)];rw [if_pos (by omega)] at f;rw [f,e];rw [e] at d;exact (congrArg Prod.fst d).symm
  ·rw [mn (Ne.symm g)];have f:=t _ a k;unfold pw at f;grind
 ·rw [if_neg e] at d;have n:de b (aG c p) (de (b (aG c p)) id v) i a=b i a:=by
   by_cases g:i=aG c p
   ·subst g;rw [mz,mn (by omega)]
   ·rw [mn g]
  rw [n,t i a k];unfold pw;have l:(s'.proc (a / 2)).timer=(s.proc (a / 2)).timer:=congrArg Prod.fst d;have m:(s'.proc (a / 2)).bP=(s.proc (a / 2)).bP:=congrArg Prod.snd d;rw [l,m]
theorem PQ :∀ {l:List Int} {s:MS},TW (l.foldl jZ s)=TW s
 | [],s=>rfl
 | a::l,s=>by rw [List.foldl_cons,PQ,Lv]
theorem Lw {v:Int}:∀ {l:List cd} {s:MS},TW (l.foldl (λs w=>db c s w.proc.toNat v) s)=TW s
 | [],s=>rfl
 | a::l,s=>by rw [List.foldl_cons,Lw,ub]
theorem acm {st:Int} (q:Nat):TW (oK c s p st) q=if q=p then (0,0) else TW s q:=by
 rw [Cc];unfold tr;rw [Lw];have g:TW (j8 (iX (j7 c (fh c s p st) p) p) p)=TW (iX (j7 c (fh c s p st) p) p):=ur rfl;rw [g];have f:TW (j7 c (fh c s p st) p)=TW s:=by unfold j7;rw [PQ];have d:TW (sc c (fh c s p st) p)=TW (fh c s p st):=rfl;rw [d];have a:TW (gO s p st)=TW s:=ur rfl;rw [<-a];funext r;show ((if r∈_ then sP p _ else _:aj).timer,(if r∈_ then sP p _ else _:aj).bP)=_;split<;>rfl
 by_cases e:q=p
 ·subst e;rw [if_pos rfl];unfold TW iX;rw [gD]
 ·rw [if_neg e,<-f];unfold TW iX;rw [jN e]
theorem fS.ended {st:Int} (t:fS c b s) (hp:p<nQ c):fS c (tu b (aG c p) p) (oK c s p st):=by
 have d:=t.set (s':=s.ba p {s.proc p with timer:=0}) hp (id:=2*p) (v:=0) (.inl rfl) λq=>by
  unfold TW;by_cases e:q=p
  ·subst e;rw [gD,if_pos rfl,if_pos rfl]
  ·rw [jN e,if_neg e]
 have a:=d.set (s':=oK c s p st) hp (id:=2*p+1) (v:=0) (.inr rfl) λq=>by
  rw [acm];by_cases e:q=p
  ·subst e;rw [if_pos rfl,if_pos rfl,if_neg (by omega),gD]
  ·rw [if_neg e,if_neg e];unfold TW;rw [jN e]
 rw [mz,Qg] at a;exact a
end
theorem YX {D:Int->Int->Int->Int} {l:List df} {k:Core} {tk self:Int} (a:0<=k.pc/\k.pc<=1000) (d:k.aP.length=8) (g:l.length<=256):0<=(ij D l k tk self).1.pc/\(ij D l k tk self).1.pc<=1000:=by
 rcases Gb (D:=D) (l:=l) (k:=k) (tk:=tk) (self:=self) with ⟨_,e⟩ | ⟨n,b,f,⟨_,e⟩ | ⟨w,st,_,e⟩⟩
 ·rw [e];exact a
 ·rw [e];have:=(Ph (D:=D) (tk:=tk) (self:=self) b f d).1;grind
 ·rw [e];have h:0<=k.pc/\k.pc<l.length:=tZ (c:=⟨[],[],0,0,0,0,[⟨0,l⟩]⟩) (p:=0) (x:=⟨0,k.pc,[],0,0,false,0,[]⟩) b;cases st
  ·show 0<=k.pc+1/\k.pc+1<=1000;omega
  ·exact a
section
variable {h0 h1 k:Hp} {K:MK} {pm:Addr} {s:MS} {f:Nat->Nat->Int}
theorem YY {p:Nat} {Q:Hp->Prop} (tk:BI) (m:eh h0 K) (u:cP K.c) (o:Has h0 (aO K pm s f) k) (S:kN K.c s) (hp:p<nQ K.c) (Y:0<=s.tick/\s.tick<=4611686018427387904) (hr:(s.proc p).aP.length=8)
  (hw:∀q,q<nQ K.c->∀l∈(s.proc q).ak,∀z∈l.waiters,z.proc≠(p:Int)) (b4:∀q∈(s.part (aG K.c p)).au,(p:Int)∉q) (td:fS K.c f s)
  (g:∀a9 i,Has h0 (aO K pm (ya K.c fF (j9 K.c) s p) a9) i->fS K.c a9 (ya K.c fF (j9 K.c) s p)->Q i):Wq prog (some pm) (some (K.p p)) Q k:=by
 unfold Wq;have hi:aG K.c p<nP K.c:=u.fP;obtain ⟨h1,z,a,l1,P,R,put⟩:=o.dX hp;have e:hH (fb z)=(s.proc p).core:=P.2.2.2.2.1;have ei:z.dY=(p:Int):=P.1;refine aJ (R.ld (shf:=fM) (fb z) rfl ?_);refine aJ (R.ld (shf:=aw) z.code rfl ?_);refine aJ (o.fu.ld (shf:=af .i64) s.tick rfl ?_);refine aJ (R.ld (shf:=af .i64) z.dY rfl ?_);rw [ei];have U:=(m.code p hp).2;have b2:(jq K.c p).length<=256:=u.th;have c0:(K.ins p).length<=256:=by have:=congrArg List.length U;rw [List.length_map] at this;omega
 refine abg (YL (m.tx o.le hp P) (by omega) λc' w k1 l2 T v=> ?_);rw [U,e] at T v;refine aJ (zg (o.grow l2) hp λk2 t=> ?_);rw [T] at t;have sp:=S.proc p hp;have b5:=YX (D:=fF) (l:=jq K.c p) (k:=(s.proc p).core) (tk:=s.tick) (self:=(p:Int)) sp.pc hr b2;have W:(w.Kind=7\/w.Kind=8)->0<=w.To/\w.To<K.c.ag:=by
  intro h;rcases Gb (D:=fF) (l:=jq K.c p) (k:=(s.proc p).core) (tk:=s.tick) (self:=(p:Int)) with ⟨C,_⟩ | ⟨n,hn,c1,⟨_,C⟩ | ⟨w',st,b7,C⟩⟩
  ·rw [<-v] at C;have:w.Kind=1:=C;omega
  ·rw [C] at v;have:w.Kind=0:=congrArg Want.kind v;omega
  ·rw [C] at v;have v:vn w=w':=v;subst v;have b3:eo K.c p (s.proc p)=some n:=hn;have Z:=(u.ins b3).1;rcases Pg b7 with ⟨a,_⟩ | ⟨_,a,_⟩ | ⟨_,a,_⟩ | ⟨_,a,_⟩ | ⟨a,_⟩ | ⟨_,a,_⟩ | ⟨b,a,d,_⟩ | ⟨b,a,d,_⟩ | ⟨a,_⟩
   ·have a:w.Kind=1:=a;omega
   ·have a:w.Kind=2:=congrArg Want.kind a;omega
   ·have a:w.Kind=3:=a;omega
   ·have a:w.Kind=4:=a;omega
   ·have a:w.Kind=5:=a;omega
   ·have a:w.Kind=6:=a;omega
   ·have d:w.To=n.gR:=d;rw [d];exact Ba Z (.inl b)
   ·have d:w.To=n.gR:=d;rw [d];exact Ba Z (.inr b)
   ·have a:w.Kind=9:=a;omega
 unfold ya at g;dsimp only at g;rw [<-v] at g;generalize hg:(ij fF (jq K.c p) (s.proc p).core s.tick (p:Int)).1=E at*;have B:kN K.c (s.ba p ((s.proc p).put E)):=by
  refine ⟨λq O=> ?_,S.part⟩;by_cases eq:q=p
  ·subst eq;rw [gD];exact ⟨b5,sp.len,sp.cur,sp.dP⟩
  ·rw [jN eq];exact S.proc q O
 have y:fS K.c f (s.ba p ((s.proc p).put E)):=td.bO (ur rfl);have b6:∀q,q<nQ K.c->∀l∈((s.ba p ((s.proc p).put E)).proc q).ak,∀z∈l.waiters,z.proc≠(p:Int):=λq O l V=>by
  have:((s.ba p ((s.proc p).put E)).proc q).ak=(s.proc q).ak:=by
   by_cases eq:q=p
   ·subst eq;rw [gD];rfl
   ·rw [jN eq]
  rw [this] at V;exact hw q O l V
 generalize X:s.ba p ((s.proc p).put E)=s1 at*;have F:s1.tick=s.tick:=by rw [<-X];rfl
 have b0:s1.part=s.part:=by rw [<-X];rfl
 obtain ⟨h3,z3,a3,l3,b8,b9,_⟩:=t.dX hp;obtain ⟨g1,g2⟩:=m.wF t hi;refine aJ (t.fu.ld (shf:=aw) K.x.parts rfl ?_);refine aJ (b9.ld (shf:=af .i64) z3.part rfl ?_);have ep:z3.part=(aG K.c p:Int):=b8.2.1;rw [ep];refine ⟨g1,some (K.q (aG K.c p)),g2,?_⟩;dsimp only;have j:∀n:Int,(w.Kind==n)=true↔w.Kind=n:=λn=>by simp
 have ek:(vn w).kind=w.Kind:=rfl;have b1:(vn w).to=w.To:=rfl;have ev:(vn w).value=w.dt:=rfl;rw [ek,b1,ev] at g;by_cases J:w.Kind=1
 ·rw [if_pos ((j 1).2 J)];simp only [if_pos J] at g;exact zmm (Lr m u t B hp λi r=>g _ i r (y.ended hp))
 rw [if_neg (λh=>J ((j 1).1 h))];simp only [if_neg J] at g;by_cases L:w.Kind=2
 ·rw [if_pos ((j 2).2 L)];simp only [if_pos L] at g;exact zut (V4 m u t B hp b6 λi r=>g _ i r (y.bO aa5))
 rw [if_neg (λh=>L ((j 2).1 h))];simp only [if_neg L] at g;by_cases A:w.Kind=3
 ·simp only [if_pos A] at g;refine dj.direct ?_;rw [if_pos ((j 3).2 A)];dsimp only;rw [if_pos ((j 3).2 A),show (w.Kind==4)=false by rw [A];rfl];exact zle (PO tk m u t B hp λi r=>g _ i r (y.bO M3))
 simp only [if_neg A] at g;by_cases G:w.Kind=4
 ·simp only [if_pos G] at g;refine dj.direct ?_;rw [if_neg (λh=>A ((j 3).1 h))];dsimp only;rw [if_pos ((j 4).2 G),(j 4).2 G];exact zle (PO tk m u t B hp λi r=>g _ i r (y.bO M3))
 simp only [if_neg G] at g;refine dj.direct ?_;rw [if_neg (λh=>A ((j 3).1 h))];dsimp only;rw [if_neg (λh=>G ((j 4).1 h))];by_cases M:w.Kind=5
 ·rw [if_pos ((j 5).2 M)];simp only [if_pos M] at g;refine V9 m u t hp (by rw [F];exact Y) λi r=> ?_;refine g (yB f (aG K.c p) p s1.tick w.dt) i ?_ ?_
  ·rw [Hz,HD] at r ⊢;rw [F] at r ⊢;exact r
  ·refine y.set hp (.inl rfl) λq=> ?_;unfold TW;by_cases eq:q=p
   ·subst eq;rw [gD,if_pos rfl,if_pos rfl,F]
   ·rw [jN eq,if_neg eq]
 rw [if_neg (λh=>M ((j 5).1 h))];simp only [if_neg M] at g;by_cases N:w.Kind=6
 ·rw [if_pos ((j 6).2 N)];simp only [if_pos N] at g;refine Wa m u t hp (by rw [F];exact Y) λi r=> ?_;refine g (de f (aG K.c p) (de (f (aG K.c p)) (2*p+1) (s1.tick+pO (wC w.dt 1) 1099511627776))) i ?_ ?_
  ·rw [Hz,HD] at r ⊢;exact r
  ·refine y.set hp (.inr rfl) λq=> ?_;unfold TW;by_cases eq:q=p
   ·subst eq;rw [gD,if_pos rfl,if_neg (by omega),F]
   ·rw [jN eq,if_neg eq]
 rw [if_neg (λh=>N ((j 6).1 h))];simp only [if_neg N] at g;by_cases H:w.Kind=7
 ·rw [if_pos ((j 7).2 H)];simp only [if_pos H] at g;exact YW m u t B hp (W (.inl H)) (by rw [b0];exact b4) λi r=>g _ i r (y.bO aa7)
 rw [if_neg (λh=>H ((j 7).1 h))];simp only [if_neg H] at g;by_cases I:w.Kind=8
 ·rw [if_pos ((j 8).2 I)];simp only [if_pos I] at g;exact TV m u t B hp (W (.inr I)) λi r=>g _ i r (y.bO Wb)
 rw [if_neg (λh=>I ((j 8).1 h))];simp only [if_neg I] at g;by_cases a8:w.Kind=9
 ·rw [if_pos ((j 9).2 a8)];simp only [if_pos a8] at g;exact aa1 m u t B hp λi r=>g _ i r (y.bO aci)
 grind
end
def qh (x:aj):aj:={x with bP:=0,state:=0,pc:=x.pc+1}
def uL (x:aj):aj:={x with timer:=0,bB:=true,state:=if x.state=1 then 0 else x.state}
def kP (a:List Int) (q:Nat) (x:aj):aj:=
 if ((2*q:Nat):Int)∈a then uL (if ((2*q+1:Nat):Int)∈a then qh x else x) else (if ((2*q+1:Nat):Int)∈a then qh x else x)
def nh (s:MS) (a:List Int):MS:=⟨s.tick,s.part,λq=>kP a q (s.proc q)⟩
theorem M4 {t:Int} {x:aj}:ni t x=(if 0<x.timer/\x.timer<=t then uL (if 0<x.bP/\x.bP<=t then qh x else x) else (if 0<x.bP/\x.bP<=t then qh x else x)):=by
 unfold ni;dsimp only;by_cases h:0<x.bP/\x.bP<=t
 ·simp only [if_pos h];rfl
 ·simp only [if_neg h];rfl
theorem Wc {a:List Int} {q:Nat} {x:aj} (h:((2*q+1:Nat):Int)∉a):kP (a++ [((2*q+1:Nat):Int)]) q x=qh (kP a q x):=by
 unfold kP;have b:((2*q+1:Nat):Int)∈a++ [((2*q+1:Nat):Int)]:=by simp
 have c:((2*q:Nat):Int)∈a++ [((2*q+1:Nat):Int)]↔((2*q:Nat):Int)∈a:=by grind
 simp only [if_pos b,if_neg h,c];split
 ·unfold uL qh;simp
 ·rfl
theorem PR {a:List Int} {q:Nat} {x:aj} (h:((2*q:Nat):Int)∉a):kP (a++ [((2*q:Nat):Int)]) q x=uL (kP a q x):=by unfold kP;grind
theorem TY {a:List Int} {q:Nat} {x:aj} {id:Int} (b:id≠((2*q:Nat):Int)) (c:id≠((2*q+1:Nat):Int)):kP (a++ [id]) q x=kP a q x:=by unfold kP;grind
theorem Wd {s:MS} {a:List Int} {id:Int} {q:Nat} {y:aj} (h:id=((2*q:Nat):Int)\/id=((2*q+1:Nat):Int)) (b:uo y=uo (kP (a++ [id]) q (s.proc q))):xo ((nh s a).ba q y)=xo (nh s (a++ [id])):=by
 rw [HD,b];unfold xo nh MS.ba;congr 1;funext r;unfold de;by_cases e:r=q
 ·grind
 ·rw [if_neg e];show uo (kP a r (s.proc r))=uo (kP (a++ [id]) r (s.proc r));rw [TY (by omega) (by omega)]
section
variable {h0 h1 k:Hp} {K:MK} {pm:Addr} {s:MS} {b:Nat->Nat->Int}
theorem YZ {c:aL} {i:Nat} {ids:List Int} (d:fS c b s) (a:i<nP c) (o:∀x∈ids,0<=x/\x<(2*nQ c:Nat)) (g:∀j:Nat,(j:Int)∈ids↔0<b i j/\b i j<=s.tick):nh s ids=j6 c s i:=by
 unfold nh j6;congr 1;funext q;by_cases h:q<nQ c/\aG c q=i
 ·rw [if_pos h,M4];unfold kP;have l:b i (2*q)=(s.proc q).timer:=by rw [d i _ a];unfold pw;rw [show 2*q / 2=q by omega,if_pos h,if_pos (by omega)]
  have m:b i (2*q+1)=(s.proc q).bP:=by rw [d i _ a];unfold pw;rw [show (2*q+1) / 2=q by omega,if_pos h,if_neg (by omega)]
  grind
 ·rw [if_neg h];have e:∀j,j / 2=q->¬(j:Int)∈ids:=λj n f=>by have h1:=(g j).1 f;rw [d i _ a] at h1;unfold pw at h1;grind
  unfold kP;rw [if_neg (e _ (by omega)),if_neg (e _ (by omega))]
theorem fS.due {c:aL} {i:Nat} (g:fS c b s) (m:i<nP c):fS c (de b i (pW (b i) s.tick)) (j6 c s i):=λj id f=>by
 have key:∀x:aj,(ni s.tick x).timer=(if 0<x.timer/\x.timer<=s.tick then 0 else x.timer)/\(ni s.tick x).bP=(if 0<x.bP/\x.bP<=s.tick then 0 else x.bP):=λx=>by rw [M4];by_cases h1:0<x.timer/\x.timer<=s.tick<;>by_cases a:0<x.bP/\x.bP<=s.tick<;>simp [h1,a,uL,qh]
 by_cases e:j=i
 ·subst e;rw [mz];unfold pW;rw [g j id f];unfold pw;by_cases h:id / 2<nQ c/\aG c (id / 2)=j
  ·rw [if_pos h,if_pos h];have d:(j6 c s j).proc (id / 2)=ni s.tick (s.proc (id / 2)):=if_pos h;rw [d];by_cases a:id%2=0
   ·rw [if_pos a,if_pos a];exact (key _).1.symm
   ·rw [if_neg a,if_neg a];exact (key _).2.symm
  omega
 ·rw [mn e,g j id f];unfold pw;by_cases h:id / 2<nQ c/\aG c (id / 2)=j
  ·rw [if_pos h,if_pos h];have d:(j6 c s i).proc (id / 2)=s.proc (id / 2):=if_neg (by rw [h.2];exact λl=>e l.2);rw [d]
  omega
theorem aa9 {i:Nat} {Q:Hp->Prop} (m:eh h0 K) (mc:cP K.c) (o:Has h0 (aO K pm s b) k) (sa:kN K.c s) (w:i<nP K.c) (H:fS K.c b s)
  (W:∀I j,Has h0 (aO K pm (j6 K.c s i) I) j->fS K.c I (j6 K.c s i)->Q j):Xq prog (some pm) (some (K.q i)) Q k:=by
 unfold Xq;have b7:=mc.procs;obtain ⟨h7,J,b9,b0,l7,Z,a8,ow,a9⟩:=o.jY w;have P:J.eM=some b0:=Z.2.2.2.2.2;refine aJ (a8.ld (shf:=al) J.eM rfl ?_);refine aJ (o.fu.ld (shf:=af .i64) s.tick rfl ?_);rw [P];refine TQ (YJ ow (by omega) λsl k2 ids A Y X o2=> ?_);have f:Has h0 ((aO K pm s (de b i (pW (b i) s.tick))).star (ff 1 fX sl ids)) k2:=o2.carry λj d=>a9 _ j d;obtain ⟨r,G,o7,E⟩:=f.aside (λ_=>rfl);have m6:=m.mono G;have b2:ids.length<=2*nQ K.c:=Hi (2*nQ K.c) ids Y A;have b4:=E.1;refine aB.intro (λ(t:Int) j=>0<=t/\t<=(ids.length:Int)/\Has r (aO K pm (nh s (ids.take t.toNat)) (de b i (pW (b i) s.tick))) j) (λt _=>(ids.length-t).toNat) ⟨by omega,by omega,by
  have e:nh s (ids.take (0:Int).toNat)=s:=by unfold nh kP;simp
  rw [e];exact o7⟩ ?_
 rintro t j ⟨t0,t1,d⟩;by_cases h:t<(ids.length:Int)
 ·rw [if_pos (iW)];refine da.direct ?_;refine Rs.get (sh:=af .i64) (Rw.mono d.le E) (λ_=>rfl) (by omega) t0 h λ(g:Int) v=> ?_;have V:=A g (List.mem_of_getElem? v);have u:g.toNat / 2<nQ K.c:=by omega
  have T:yw (Int.tdiv g 2)=((g.toNat / 2:Nat):Int):=by rw [Int.tdiv_eq_ediv_of_nonneg V.1,aV];omega
  have b6:g∉ids.take t.toNat:=by
   intro b3;obtain ⟨b5,U⟩:=List.getElem?_eq_some_iff.1 v;have b8:ids=ids.take t.toNat++g::ids.drop (t.toNat+1):=by rw [<-U,List.getElem_cons_drop,List.take_append_drop]
   grind
  generalize b1:g.toNat / 2=q at*;obtain ⟨R,S⟩:=m6.ptr d u;refine aJ (d.fu.ld (shf:=aw) K.x.procs rfl ⟨by decide,?_⟩);rw [T];refine ⟨R,some (K.p q),S,?_⟩;obtain ⟨h2,z,a,l2,n,C,put⟩:=d.dX u;have M:z.dY=(q:Int):=n.1;refine aJ (C.ld (shf:=af .i64) z.dY rfl ?_);rw [M];refine Mq (BK (by omega) ?_);have step:∀ {y:aj} {l:Hp},uo y=uo (kP (ids.take t.toNat++ [g]) q (s.proc q))->Has r (aO K pm ((nh s (ids.take t.toNat)).ba q y) (de b i (pW (b i) s.tick))) l->
    (0<=yw (t+1)/\yw (t+1)<=(ids.length:Int)/\Has r (aO K pm (nh s (ids.take (yw (t+1)).toNat)) (de b i (pW (b i) s.tick))) l)/\(ids.length-yw (t+1)).toNat<(ids.length-t).toNat:=by
   intro y l hy f;rw [aV];refine ⟨⟨by omega,by omega,?_⟩,by omega⟩;have e:(t+1).toNat=t.toNat+1:=by omega
   rw [e,List.take_add_one,v];show Has r (aO K pm (nh s (ids.take t.toNat++ [g])) _) l;rw [Hz,<-Wd (q:=q) (y:=y) (by omega) hy,<-Hz];exact f
  by_cases B:g=((2*q+1:Nat):Int)
  ·rw [if_pos (by rw [B];simp)];have O:((nh s (ids.take t.toNat)).proc q).pc=(s.proc q).pc:=by show (kP (ids.take t.toNat) q (s.proc q)).pc=_;unfold kP;rw [if_neg (c:=((2*q+1:Nat):Int)∈_) (by grind)];split<;>rfl
   have e:hH (fb z)=((nh s (ids.take t.toNat)).proc q).core:=n.2.2.2.2.1;have N:(fb z).PC=(s.proc q).pc:=(congrArg Core.pc e).trans O;refine aJ (C.ld (shf:=fM) (fb z) rfl ?_);refine EL (uZ (by rw [N];exact sa.told u) λc' L=> ?_);refine U7 (Gn d u λl f=>step ?_ f);rw [L,e,B,Wc (by grind)];rfl
  ·rw [if_neg (by simpa using B)];have F:g=((2*q:Nat):Int):=by omega
   refine aJ (C.st (xk z true) (by show 13+1<=15;omega) rfl λl f=> ?_);have D:z.state=((nh s (ids.take t.toNat)).proc q).state:=n.2.2.2.1;refine aJ (f.ld (shf:=af .i64) z.state rfl ?_);by_cases h1:z.state=1
   ·rw [if_pos (by rw [h1];rfl)];refine aJ (f.st (qo (xk z true) 0) (by show 3+1<=15;omega) rfl λk4 o4=> ?_);refine step ?_ (put _ _ _ ((n.bB true).state 0) rfl rfl o4);rw [F,PR (by grind)];unfold uL;rw [if_pos (by rw [<-h1,D];rfl)];rfl
   ·rw [if_neg (by simpa using h1)];refine step ?_ (put _ _ _ (n.bB true) rfl rfl f);rw [F,PR (by grind)];unfold uL;rw [if_neg (by rw [D] at h1;exact h1)];rfl
 ·rw [if_neg (λe=>h (by grind))];have e:t.toNat=ids.length:=by omega
  rw [e,List.take_of_length_le (Nat.le_refl _),YZ H w A X] at d;exact W _ j (d.mono G) (H.due w)
end
section
variable {c:aL} {fl:Nat->Nat->Bool} {s:MS} {T:Int}
theorem Good.qa (m:cP c) (g:Good c fl s No No T):kN c s where
 proc:=λp hp=>by
  have pm:=g.proc p hp;have G:=m.th (p:=p);have H:=m.lane;have e:=m.procs;refine ⟨by have:=pm.pc;omega,pm.nC,pm.cur,λl a=> ?_⟩;obtain ⟨i,f,n⟩:=List.getElem_of_mem a;have d:(s.proc p).ak[i]? =some l:=by grind
  obtain ⟨a1,a2,a3,_⟩:=pm.dP i l d;obtain ⟨b,j,o⟩:=g.dP p hp i l d;have B:∀w∈l.waiters,0<=w.proc/\w.proc<(nQ c:Int):=λw A=>by obtain ⟨r,t,_⟩:=o w A;omega
  have y:=Hi (nQ c) (l.waiters.map (·.proc)) b λx I=>by grind
  rw [List.length_map] at y;exact ⟨by omega,by omega,a2,a3,b,B⟩
 part:=λi f=>by
  have pm:=g.part i f;have u:=m.log;have D:=m.ag;have E:=m.procs;have F:(fo c i).length<=nQ c:=by have u:(fo c i).length<=(List.range (nQ c)).length:=List.length_filter_le ..;grind
  have e:∀q∈(s.part i).au,q.Nodup/\∀z∈q,0<=z/\z<(nQ c:Int):=λq a=>by
   obtain ⟨k,v,n⟩:=List.getElem_of_mem a;have d:(s.part i).au[k]? =some q:=by rw [List.getElem?_eq_getElem v,n]
   obtain ⟨b,j,_⟩:=g.kW i f k q d;exact ⟨b,λz C=>by obtain ⟨r,t,_⟩:=j z C;omega⟩
  refine ⟨⟨pm.cur.1,?_⟩,by have:=pm.lR;omega,pm.lost,pm.km,by have:=pm.iZ;have:=pm.jQ;omega,pm.jQ,⟨by have:=pm.jQ;omega,λq a=> ?_⟩,e⟩
  ·by_cases h:0<(s.part i).ai
   ·have:=pm.cur.2 h;omega
   ·omega
  ·have:=Hi (nQ c) q (e q a).1 (e q a).2;omega
theorem Y0 {i t:Nat} (g:t<(fo c i).length) (j:∀k,k<t->(s.proc ((fo c i).getD (((s.part i).ai.toNat+k)%(fo c i).length) 0)).state≠0) (h:(s.proc ((fo c i).getD (((s.part i).ai.toNat+t)%(fo c i).length) 0)).state=0):
  lq c s i=some (((s.part i).ai.toNat+t)%(fo c i).length):=by
 unfold lq;have e:List.range (fo c i).length=List.range t++(t::(List.range (fo c i).length).drop (t+1)):=by
  have a:(List.range (fo c i).length)[t]? =some t:=List.getElem?_range g;obtain ⟨b,d⟩:=List.getElem?_eq_some_iff.1 a;have f:List.take t (List.range (fo c i).length)=List.range t:=by rw [List.take_range,Nat.min_eq_left (by omega)]
  calc List.range (fo c i).length=(List.range (fo c i).length).take t++(List.range (fo c i).length).drop t:=(List.take_append_drop t _).symm
   _=_:=by rw [f,List.drop_eq_getElem_cons b,d]
 grind
theorem Y1 {i:Nat} (a:∀k,k<(fo c i).length->(s.proc ((fo c i).getD (((s.part i).ai.toNat+k)%(fo c i).length) 0)).state≠0):lq c s i=none:=by unfold lq;grind
theorem adT {D:Int->Int->Int->Int} {i a n:Nat} (h:lq c s i=some a):pv c D fl i (n+1) s=pv c D fl i n (ma c D fl s i a):=by
 have e:pv c D fl i (n+1) s=(match lq c s i with
  | none=>s
  | some a=>pv c D fl i n (ma c D fl s i a)):=rfl
 rw [e,h]
theorem Good.Dw (g:Good c fl s No No T) {p:Nat} (r:(s.proc p).state=0):(∀q,q<nQ c->∀l∈(s.proc q).ak,∀z∈l.waiters,z.proc≠(p:Int))/\∀i,i<nP c->∀q∈(s.part i).au,(p:Int)∉q:=by
 have h:Out s No No p:=Ai ⟨by omega,by omega⟩;refine ⟨λq b l m w o e=> ?_,λi f q b n=> ?_⟩
 ·obtain ⟨i,f,d⟩:=List.getElem_of_mem m;have a:(s.proc q).ak[i]? =some l:=by grind
  exact ((g.dP q b i l a).2.2 w o).out h (by omega)
 ·obtain ⟨k,j,d⟩:=List.getElem_of_mem b;have a:(s.part i).au[k]? =some q:=by rw [List.getElem?_eq_getElem j,d]
  exact ((g.kW i f k q a).2.1 _ n).out h (by omega)
end
section
variable {h0 h1 k:Hp} {K:MK} {pm:Addr} {s:MS} {b:Nat->Nat->Int}
theorem Lx {p:Int} {Q:Int->Hp->Prop} (m:eh h0 K) (l:cP K.c) (o:Has h0 (aO K pm s b) k) (q:kN K.c s) (r:fS K.c b s) (d:∀i a,Has h0 (aO K pm (jF K.c s p).1 i) a->fS K.c i (jF K.c s p).1->Q (jF K.c s p).2 a):LU prog (some pm) p Q k:=by
 unfold LU;refine zld (PN m o ?_);unfold jF at d;by_cases h:xq K.c s p≠0
 ·grind
 rw [if_neg (by simpa using h)];rw [if_neg h] at d;obtain ⟨t,e,u⟩:=FD (Classical.not_not.1 h);have j:((p.toNat:Nat):Int)=p:=by omega
 obtain ⟨f,g⟩:=m.ptr o e;rw [j] at f g;refine aJ (o.fu.ld (shf:=aw) K.x.procs rfl ⟨f,some (K.p p.toNat),g,?_⟩);exact zmm (Lr m l o q e λa n=>d _ a n (r.ended e))
theorem ac2 {t:Int} {Q:Int->Hp->Prop} (m:eh k K) (u:cP K.c) (o:0<=t) (f:Q (nT K.c t:Int) k):Zi prog (some K.sl) t Q k:=by
 unfold Zi;obtain ⟨sl,n,h,e⟩:=m.s2;have g:=u.table;have q:=e.1;have r:0<K.c.table.length:=List.length_pos_iff.2 g.1;have ld:∀ {a:Sl->Prop},a sl->aN none aw k (K.sl.add 0) a:=λ{a} p=>⟨sl,λj v hv=>by
  cases j with
  | zero=>have:=h 0 v (by simpa [bA,Sl.v] using hv);rw [vV];exact this
  | succ j=>simp [bA] at hv,p⟩
 rw [if_neg (by simp;omega)];refine aJ (ld (aJ (ld ⟨by omega,?_⟩)));have l:Int.tmod t ((sl.len:Nat):Int)=((t.toNat%K.c.table.length:Nat):Int):=by rw [Int.tmod_eq_emod_of_nonneg o,q,Int.natCast_emod];congr 1;omega
 rw [l];have w:t.toNat%K.c.table.length<K.c.table.length:=Nat.mod_lt _ r;refine mE (sh:=af .i64) e λ(x:Int) d=> ?_;rw [Int.toNat_natCast] at d;unfold nT at f;have i:K.c.table.getD (t.toNat%K.c.table.length) 0=x:=by simp [List.getD,d]
 rw [i] at f;have:=g.2.2 x (List.mem_of_getElem? d);grind
theorem Ly {Q:Int->Hp->Prop} (tk:BI) (m:eh h0 K) (l:cP K.c) (o:Has h0 (aO K pm s b) k) (g:Good K.c (j9 K.c) s No No s.tick) (ht:s.tick<4611686018427387904) (td:fS K.c b s)
  (P:∀r u,Has h0 (aO K pm (lY K.c fF (j9 K.c) s) r) u->fS K.c r (lY K.c fF (j9 K.c) s)->Q (nT K.c s.tick:Int) u):LS prog (some pm) Q k:=by
 unfold LS;have b4:=g.tick;have d8:=l.fuel;have n:=l.nO (t:=s.tick);have d9:=l.procs;refine aJ (o.fu.ld (shf:=al) K.x.vL rfl ?_);refine aJ (o.fu.ld (shf:=af .i64) s.tick rfl ?_);rw [m.s1];refine SV (ac2 (m.mono o.le) l b4 ?_);have b2:lY K.c fF (j9 K.c) s=⟨(pv K.c fF (j9 K.c) (nT K.c s.tick) K.c.fuel.toNat (j6 K.c s (nT K.c s.tick))).tick+1,(pv K.c fF (j9 K.c) (nT K.c s.tick) K.c.fuel.toNat (j6 K.c s (nT K.c s.tick))).part,(pv K.c fF (j9 K.c) (nT K.c s.tick) K.c.fuel.toNat (j6 K.c s (nT K.c s.tick))).proc⟩:=rfl;rw [b2] at P;generalize nT K.c s.tick=i at*;obtain ⟨g1,g2⟩:=m.wF o n;refine aJ (o.fu.ld (shf:=aw) K.x.parts rfl ⟨g1,some (K.q i),g2,?_⟩);have gd:=(g.yL (T':=s.tick+1) (by omega)).due (i:=i);refine zxf (aa9 m l o (g.qa l) n td λd1 k1 Y c8=> ?_);have a9:K.x.iV=K.c.fuel:=m.cfg.fuel;have H:(j6 K.c s i).tick=s.tick:=rfl;generalize j6 K.c s i=s1 at*;refine aJ ?_;rw [vV];refine Y.fu.ld (shf:=af .i64) K.x.iV rfl ?_;rw [a9];obtain ⟨d5,d0⟩:=Good.turns (D:=fF) l n K.c.fuel.toNat gd (by rw [H]);refine da.intro (λu=>∃r,Has h0 (aO K pm (pv K.c fF (j9 K.c) i K.c.fuel.toNat s1) r) u/\fS K.c r (pv K.c fF (j9 K.c) i K.c.fuel.toNat s1)) ?_ ?_
 ·refine aB.intro (λ(t:Int) u=>0<=t/\t<=K.c.fuel/\∃d r,Has h0 (aO K pm d r) u/\fS K.c r d/\Good K.c (j9 K.c) d No No (s.tick+1)/\d.tick=s.tick/\pv K.c fF (j9 K.c) i (K.c.fuel-t).toNat d=pv K.c fF (j9 K.c) i K.c.fuel.toNat s1) (λt _=>(K.c.fuel-t).toNat) ⟨by omega,by omega,s1,d1,Y,c8,gd,H,by rw [Int.sub_zero]⟩ ?_;rintro t u ⟨t0,t1,d,r,y,c7,F,O,A⟩;by_cases h:t<K.c.fuel
  ·rw [if_pos (decide_eq_true h)];have S:=(m.own i n).mono y.le;have J:=S.1;rw [List.length_map] at J;have d7:(fo K.c i).length<=1000:=by have h1:(fo K.c i).length<=(List.range (nQ K.c)).length:=List.length_filter_le ..;grind
   have en:(K.c.fuel-t).toNat=(K.c.fuel-(t+1)).toNat+1:=by omega
   rw [en] at A;have si:=(F.qa l).part i n;have d6:=si.cur;obtain ⟨h3,x,lp,wp,l3,U,C,_⟩:=y.vK n;have E:x.procs=K.own i:=U.1;have ec:x.ai=(d.part i).ai:=U.2.1;refine aJ (C.ld (shf:=aw) x.procs rfl ?_);rw [E];refine aB.intro (λ(j:Int) W=>W=u/\0<=j/\j<=((fo K.c i).length:Int)/\∀B,B<j.toNat->(d.proc ((fo K.c i).getD (((d.part i).ai.toNat+B)%(fo K.c i).length) 0)).state≠0) (λj _=>((fo K.c i).length-j).toNat) ⟨rfl,by omega,by omega,λB b8=>by omega⟩ ?_;rintro j _ ⟨rfl,j0,j1,R⟩;by_cases hj:j<((fo K.c i).length:Int)
   ·rw [if_pos (iW)];refine aJ (C.ld (shf:=af .i64) x.ai rfl ?_);refine aJ (C.ld (shf:=aw) x.procs rfl ?_);rw [E,ec];have b5:Int.tmod (yw ((d.part i).ai+j)) (((K.own i).len:Nat):Int)=((((d.part i).ai.toNat+j.toNat)%(fo K.c i).length:Nat):Int):=by rw [aV,Int.tmod_eq_emod_of_nonneg (by omega),J,Int.natCast_emod];grind
    rw [b5];have I:((d.part i).ai.toNat+j.toNat)%(fo K.c i).length<(fo K.c i).length:=Nat.mod_lt _ (by omega);refine ⟨by omega,?_⟩;refine aJ (y.fu.ld (shf:=aw) K.x.procs rfl ?_);refine aJ (C.ld (shf:=aw) x.procs rfl ?_);rw [E];generalize ha:((d.part i).ai.toNat+j.toNat)%(fo K.c i).length=a at I ⊢;refine Rs.get (sh:=af .i64) S (λ_=>rfl) (by omega) (by omega) (by grind) λ(q':Int) v=> ?_;rw [Int.toNat_natCast,List.getElem?_map] at v;have b7:=List.getElem?_eq_getElem I;rw [b7] at v;have v:((fo K.c i)[a]:Int)=q':=Option.some.inj v;have b0:(fo K.c i).getD a 0=(fo K.c i)[a]:=by grind
    have L:(fo K.c i)[a]∈fo K.c i:=List.getElem_mem I;rw [<-b0] at v L;generalize c1:(fo K.c i).getD a 0=q at v L;subst v;obtain ⟨G,c0⟩:=gy.1 L;obtain ⟨g5,g6⟩:=m.ptr y G;refine ⟨g5,some (K.p q),g6,?_⟩;obtain ⟨h4,z,ad,l4,hz,oz,_⟩:=y.dX G;refine aJ (oz.ld (shf:=af .i64) z.state rfl ?_);have b1:z.state=(d.proc q).state:=hz.2.2.2.1;rw [b1];by_cases M:(d.proc q).state=0
    ·rw [if_pos (by rw [M];rfl)];refine aJ (C.ld (shf:=aw) x.procs rfl ?_);rw [E];have b6:Int.tmod (yw (((a:Nat):Int)+1)) (((K.own i).len:Nat):Int)=((a+1:Nat):Int)%((fo K.c i).length:Int):=by rw [aV,Int.tmod_eq_emod_of_nonneg (by omega),J];congr 1
     rw [b6];refine ⟨by omega,?_⟩;have T:lq K.c d i=some a:=by
      have:=Y0 (c:=K.c) (s:=d) (i:=i) (t:=j.toNat) (by omega) R (by grind)
      rwa [ha] at this
     obtain ⟨h6,f,e1,e3,l6,V,c4,c5⟩:=y.vK n;refine aJ (c4.st (⟨f.procs,((a+1:Nat):Int)%((fo K.c i).length:Int),f.log,f.lost,f.forbidden,f.ag,f.eM⟩:bw) (by show 1+1<=7;omega) rfl λX N=> ?_);have o4:=c5 (⟨f.procs,((a+1:Nat):Int)%((fo K.c i).length:Int),f.log,f.lost,f.forbidden,f.ag,f.eM⟩:bw) {d.part i with ai:=((a+1:Nat):Int)%((fo K.c i).length:Int)} _ ⟨V.1,rfl,V.2.2⟩ rfl rfl rfl rfl N;have w:=F.part i n;have gc:Good K.c (j9 K.c) (d.dT i {d.part i with ai:=((a+1:Nat):Int)%((fo K.c i).length:Int)}) No No (s.tick+1):=by refine F.parts ⟨⟨Int.emod_nonneg _ (by omega),λ_=>Int.emod_lt_of_pos _ (by omega)⟩,w.lR,w.log,w.lost,w.km,w.full,w.iZ,w.jQ⟩ rfl rfl
     obtain ⟨c2,c3⟩:=gc.Dw (p:=q) M;have gt:=F.ID (D:=fF) l n (by rw [O]) T;have d4:(ma K.c fF (j9 K.c) d i a).tick=d.tick:=GR;have b3:ma K.c fF (j9 K.c) d i a=ya K.c fF (j9 K.c) (d.dT i {d.part i with ai:=((a+1:Nat):Int)%((fo K.c i).length:Int)}) q:=by unfold ma;rw [c1]
     refine zvx (YY tk m l o4 (gc.qa l) G (by show 0<=d.tick/\d.tick<=_;rw [O];omega) (gc.proc q G).aP c2 (c3 _ (by rw [c0];exact n)) (c7.bO rfl) λd3 k5 o5 a8=> ?_);rw [<-b3] at o5 a8;rw [aV];refine ⟨⟨by omega,by omega,_,d3,o5,a8,gt,by omega,?_⟩,by omega⟩;rw [<-A];exact (adT T).symm
    ·rw [if_neg (by simpa using M),aV];grind
   ·rw [if_neg (λe=>hj (by have:=of_decide_eq_true e;omega))];have b9:=Y1 (c:=K.c) (s:=d) (i:=i) λB b8=>R B (by omega);have e2:pv K.c fF (j9 K.c) i ((K.c.fuel-(t+1)).toNat+1) d=d:=by unfold pv;rw [b9]
    grind
  ·rw [if_neg (λe=>h (of_decide_eq_true e))];have e0:(K.c.fuel-t).toNat=0:=by omega
   rw [e0] at A;have A:d=_:=A;grind
 ·rintro W ⟨d2,Z,c9⟩;rw [H] at d0;generalize pv K.c fF (j9 K.c) i K.c.fuel.toNat s1=s2 at*;refine aJ (Z.fu.ld (shf:=af .i64) s2.tick rfl ?_);obtain ⟨h7,l7,o7,_,c6⟩:=Z.fst;rw [aV];refine aJ (o7.st (tT K.x (s2.tick+1)) (by show 9+1<=12;omega) rfl λX N=> ?_);exact P d2 X (c6 _ _ N) c9
end
section
variable {c:aL} {fl:Nat->Nat->Bool} {s:MS} {T:Int}
theorem kn {i:Nat} {x:cJ}:(s.list c).parts[i]? =some x↔i<nP c/\x=s.part i:=by
 show ((List.range (nP c)).map s.part)[i]? =some x↔_;rw [List.getElem?_map];by_cases h:i<nP c
 ·rw [List.getElem?_range h];constructor
  ·intro e;exact ⟨h,(Option.some.inj e).symm⟩
  ·rintro ⟨_,rfl⟩;rfl
 ·rw [List.getElem?_eq_none (by rw [List.length_range];omega)];constructor
  ·intro e;cases e
  ·intro e;exact absurd e.1 h
theorem jr {i:Nat} {x:aj}:(s.list c).procs[i]? =some x↔i<nQ c/\x=s.proc i:=by
 show ((List.range (nQ c)).map s.proc)[i]? =some x↔_;rw [List.getElem?_map];by_cases h:i<nQ c
 ·rw [List.getElem?_range h];constructor
  ·intro e;exact ⟨h,(Option.some.inj e).symm⟩
  ·rintro ⟨_,rfl⟩;rfl
 ·rw [List.getElem?_eq_none (by rw [List.length_range];omega)];constructor
  ·intro e;cases e
  ·intro e;exact absurd e.1 h
theorem xB (m:cP c) {p:Nat} (hp:p<nQ c):∃y,c.procs[p]? =some y/\y.part=(aG c p:Int)/\y.code=jq c p:=by
 have h:=List.getElem?_eq_getElem (show p<c.procs.length from hp);refine ⟨_,h,?_,?_⟩
 ·have:=m.part _ (List.mem_of_getElem? h);unfold aG;rw [h];simp;omega
 ·unfold jq;rw [h];rfl
theorem zv {y:fI} {p:Nat} {x:aj} (h:y.code=jq c p):jE y x.pc=eo c p x:=by unfold jE eo iu;rw [h]
theorem xD (m:cP c) {p:Int} {i:Nat}:qF c p i↔0<=p/\p.toNat<nQ c/\aG c p.toNat=i:=by
 unfold qF;constructor
 ·rintro ⟨d,y,b,f⟩;have hp:p.toNat<nQ c:=(List.getElem?_eq_some_iff.1 b).1;obtain ⟨g,a,e,_⟩:=xB m hp;rw [b] at a;cases a;exact ⟨d,hp,by omega⟩
 ·rintro ⟨d,b,f⟩;obtain ⟨g,a,e,_⟩:=xB m b;exact ⟨d,g,a,by rw [e,f]⟩
theorem M5 (m:cP c) {i:Nat}:og c i=(fo c i).length:=by
 have e:c.procs=(List.range c.procs.length).map λq=>c.procs.getD q ⟨0,[]⟩:=by
  refine List.ext_getElem? λj=> ?_;rw [List.getElem?_map];by_cases h:j<c.procs.length
  ·rw [List.getElem?_range h,List.getElem?_eq_getElem h];simp [List.getD,List.getElem?_eq_getElem h]
  ·rw [List.getElem?_eq_none (by omega),List.getElem?_eq_none (by rw [List.length_range];omega)];rfl
 unfold og fo;rw [e,List.filter_map,List.length_map];congr 1;refine List.filter_congr λq a=> ?_;have a:q<nQ c:=List.mem_range.1 a;obtain ⟨y,b,d,_⟩:=xB m a;have f:c.procs.getD q ⟨0,[]⟩=y:=by simp [List.getD,b]
 show decide ((c.procs.getD q ⟨0,[]⟩).part=(i:Int))=decide (aG c q=i);rw [f,d];by_cases h:aG c q=i
 ·rw [decide_eq_true h,iW]
 ·rw [decide_eq_false h,decide_eq_false (by omega)]
theorem Oh (m:cP c) {i:Nat} {st:aR} (j:st.tick=T):∀ {l:List qS} {last:Int},l.Pairwise (λa b=>a.tick<=b.tick)->(∀e∈l,last<=e.tick/\e.tick<T/\0<=e.proc/\e.proc.toNat<nQ c/\aG c e.proc.toNat=i)->sW c st i last l
 | [],_,_,_=>trivial
 | e::r,last,h,g=>by obtain ⟨k,n⟩:=List.pairwise_cons.1 h;obtain ⟨a1,a2,a3⟩:=g e (List.mem_cons_self ..);refine ⟨a1,by rw [j];exact a2,(xD m).2 a3,Oh m j n λd f=>⟨k d f,(g d (List.mem_cons_of_mem _ f)).2⟩⟩
theorem PS {l:List Int} {z:Int} (nd:l.Nodup) (h:z∈l):l.countP (λy=>decide (y=z))=1:=by
 induction l with
 | nil=>cases h
 | cons a l d=>
  rw [List.nodup_cons] at nd;rw [List.countP_cons];rcases List.mem_cons.1 h with rfl | h
  ·have:l.countP (λy=>decide (y=z))=0:=by rw [List.countP_eq_zero];intro y b;simp;exact λe=>nd.1 (e▸b)
   rw [this];simp
  ·rw [d nd.2 h];have:a≠z:=λe=>nd.1 (e▸h);simp [this]
theorem HF {l:List Int} {z:Int} (h:z∉l):l.countP (λy=>decide (y=z))=0:=by rw [List.countP_eq_zero];intro y a;simp;exact λe=>h (e▸a)
theorem FK {p:Int} {x:cJ} (h:∀q∈x.au,p∉q):j5 p x=0:=by unfold j5;rw [List.sum_eq_zero_iff_forall_eq_nat];intro y b;obtain ⟨q,a,rfl⟩:=List.mem_map.1 b;exact HF (h q a)
theorem zw {p:Int} {l:aX}:qC p l=(l.waiters.map (·.proc)).countP λy=>decide (y=p):=by unfold qC;rw [List.countP_map];rfl
theorem FL {p:Int} {x:aj} (h:∀l∈x.ak,∀w∈l.waiters,w.proc≠p):j4 p x=0:=by unfold j4;rw [List.sum_eq_zero_iff_forall_eq_nat];intro y f;obtain ⟨l,a,rfl⟩:=List.mem_map.1 f;rw [zw];refine HF λb=> ?_;obtain ⟨w,d,e⟩:=List.mem_map.1 b;exact h l a w d e
end
section
variable {c:aL} {fl:Nat->Nat->Bool} {s:MS} {T:Int}
theorem PT {i:Nat} (h:i<nP c):(s.list c).parts[i]? =some (s.part i):=kn.2 ⟨h,rfl⟩
theorem Bq {i:Nat} (h:i<nQ c):(s.list c).procs[i]? =some (s.proc i):=jr.2 ⟨h,rfl⟩
theorem abb {p:Int} (h:p.toNat<nQ c) {q:aj->Prop} (a:q (s.proc p.toNat)):Iy (s.list c) p q:=⟨_,Bq h,a⟩
theorem CA (m:cP c) {p:Int} (h:p.toNat<nQ c) {n:df} (d:eo c p.toNat (s.proc p.toNat)=some n) {q:aj->df->Prop} (e:q (s.proc p.toNat) n):HZ c (s.list c) p q:=by obtain ⟨y,a,f,b⟩:=xB m h;exact ⟨_,y,n,Bq h,a,by rw [zv b];exact d,e⟩
theorem M6 {r:List Int} {i v:Int} (d:r.length=8) (b:0<=i/\i<8) (h:fQ r i=v):r[i.toNat]? =some v:=by
 have a:i.toNat<r.length:=by omega
 rw [List.getElem?_eq_getElem a,<-h];unfold fQ;grind
theorem Good.waits (m:cP c) (g:Good c fl s No No T):xh c (s.list c):=by
 refine ⟨λi x a k q hq p hp=> ?_,λr x y a M i l hl w Y=> ?_,λp x a=> ?_⟩
 ·obtain ⟨z,rfl⟩:=kn.1 a;obtain ⟨b1,R,S⟩:=g.kW i z k q hq;obtain ⟨a1,a2,a3,_,a5⟩:=R p hp;obtain ⟨a5,n,a6,a7,E⟩:=a5.resolve_left (λh=>h);obtain ⟨o,t,u,O⟩:=S (List.ne_nil_of_mem hp);refine ⟨(xD m).2 ⟨a1,a2,a3⟩,CA m a2 a6 ⟨a5,E⟩,o,t,?_,λe=>O (e▸hp)⟩;rcases g.own i z k o t with h | h
  ·exact absurd h u
  ·exact h.1
 ·obtain ⟨G,rfl⟩:=jr.1 a;obtain ⟨y',f1,f2,f3⟩:=xB m G;rw [M] at f1;cases f1;obtain ⟨b1,R,S⟩:=g.dP r G i l hl;obtain ⟨c1,c2,c3⟩:=R (List.ne_nil_of_mem Y);obtain ⟨a1,a2,a3,_,a5⟩:=S w Y;obtain ⟨a5,n,a6,a7,E,a9⟩:=a5.resolve_left (λh=>h);have b0:=dH.1 (c2.resolve_right (λh=>h));have X:=(g.proc _ a2).aP;have Z:=TA (m.ins a6).1 a7;exact ⟨by rw [f2,c1],(xD m).2 ⟨a1,a2,a3⟩,b0,c3,CA m a2 a6 ⟨a5,a7,M6 X Z.2.1 E,M6 X Z.2.2 a9⟩⟩
 ·obtain ⟨hp,rfl⟩:=jr.1 a;have b4:((s.list c).parts.map (j5 (p:Int))).sum=if (s.proc p).state=3 then 1 else 0:=by
   by_cases Q:(s.proc p).state=3
   ·rw [if_pos Q];obtain ⟨k,q,t,u⟩:=g.uO p hp (λh=>h) Q;have z:=m.fP (p:=p);rw [zb (j5 (p:Int)) _ (aG c p) λj x a J=> ?_,PT z]
    ·show j5 (p:Int) (s.part (aG c p))=1;unfold j5;rw [zb _ _ k λj D K J=> ?_,t]
     ·exact PS (g.kW _ z k q t).1 u
     ·refine HF λB=> ?_;obtain ⟨_,_,_,_,a5⟩:=(g.kW _ z j D K).2.1 _ B;obtain ⟨_,n1,a6,_,E⟩:=a5.resolve_left (λh=>h);obtain ⟨_,_,_,_,U⟩:=(g.kW _ z k q t).2.1 _ u;obtain ⟨_,n2,F,_,W⟩:=U.resolve_left (λh=>h);rw [a6] at F;cases F;omega
    ·obtain ⟨d,rfl⟩:=kn.1 a;refine FK λD K B=> ?_;obtain ⟨f,A,b⟩:=List.getElem_of_mem K;have v:(s.part j).au[f]? =some D:=by rw [List.getElem?_eq_getElem A,b]
     have:=((g.kW j d f D v).2.1 _ B).2.2.1;rw [Int.toNat_natCast] at this;exact J this.symm
   ·rw [if_neg Q,List.sum_eq_zero_iff_forall_eq_nat];intro y M;obtain ⟨x,a,rfl⟩:=List.mem_map.1 M;obtain ⟨j,d,b⟩:=List.getElem_of_mem a;have V:(s.list c).parts[j]? =some x:=by rw [List.getElem?_eq_getElem d,b]
    obtain ⟨d,rfl⟩:=kn.1 V;refine FK λD K B=> ?_;obtain ⟨f,A,b⟩:=List.getElem_of_mem K;have v:(s.part j).au[f]? =some D:=by rw [List.getElem?_eq_getElem A,b]
    obtain ⟨_,_,_,_,a5⟩:=(g.kW j d f D v).2.1 _ B;have:=(a5.resolve_left (λh=>h)).1;rw [Int.toNat_natCast] at this;exact Q this
  have b7:((s.list c).procs.map (j4 (p:Int))).sum=if (s.proc p).state=2 then 1 else 0:=by
   by_cases P:(s.proc p).state=2
   ·rw [if_pos P];obtain ⟨r,G,l,t,w,u,O⟩:=g.uN p hp (λh=>h) P;obtain ⟨d1,d2,d3⟩:=g.dP r G _ l t;obtain ⟨_,_,_,_,U⟩:=d3 w u;obtain ⟨_,n2,F,_,W,_⟩:=U.resolve_left (λh=>h);rw [O,Int.toNat_natCast] at F W;rw [zb (j4 (p:Int)) _ r λj x a J=> ?_,Bq G]
    ·show j4 (p:Int) (s.proc r)=1;unfold j4;rw [zb _ _ (aG c p) λj C I J=> ?_,t]
     ·show qC (p:Int) l=1;rw [zw];exact PS d1 (List.mem_map.2 ⟨w,u,O⟩)
     ·rw [zw];refine HF λB=> ?_;obtain ⟨N,L,H⟩:=List.mem_map.1 B;have:=((g.dP r G j C I).2.2 N L).2.2.1;rw [H,Int.toNat_natCast] at this;exact J this.symm
    ·obtain ⟨d,rfl⟩:=jr.1 a;refine FL λC I N L H=> ?_;obtain ⟨f,A,b⟩:=List.getElem_of_mem I;have v:(s.proc j).ak[f]? =some C:=by rw [List.getElem?_eq_getElem A,b]
     obtain ⟨_,_,_,_,a5⟩:=(g.dP j d f C v).2.2 N L;obtain ⟨_,n1,a6,_,E,_⟩:=a5.resolve_left (λh=>h);rw [H,Int.toNat_natCast] at a6 E;rw [a6] at F;cases F;omega
   ·rw [if_neg P,List.sum_eq_zero_iff_forall_eq_nat];intro y M;obtain ⟨x,a,rfl⟩:=List.mem_map.1 M;obtain ⟨j,d,b⟩:=List.getElem_of_mem a;have V:(s.list c).procs[j]? =some x:=by rw [List.getElem?_eq_getElem d,b]
    obtain ⟨d,rfl⟩:=jr.1 V;refine FL λC I N L H=> ?_;obtain ⟨f,A,b⟩:=List.getElem_of_mem I;have v:(s.proc j).ak[f]? =some C:=by rw [List.getElem?_eq_getElem A,b]
    obtain ⟨_,_,_,_,a5⟩:=(g.dP j d f C v).2.2 N L;have:=(a5.resolve_left (λh=>h)).1;rw [H,Int.toNat_natCast] at this;exact P this
  grind
theorem Good.may (m:cP c) (g:Good c fl s No No s.tick) (q:s.tick<=4611686018427387904):wg c (s.list c) λi y=>fl i y.toNat=true:=by
 refine ⟨⟨⟨g.tick,q⟩,?_,?_⟩,λi x d=> ?_,λp x y d t=> ?_,g.waits m⟩
 ·show ((List.range (nP c)).map s.part).length=_;rw [List.length_map,List.length_range];rfl
 ·show ((List.range (nQ c)).map s.proc).length=_;rw [List.length_map,List.length_range];rfl
 ·obtain ⟨b,rfl⟩:=kn.1 d;have pm:=g.part i b;refine ⟨⟨pm.cur.1,by rw [M5 m];exact pm.cur.2,pm.lR⟩,Oh m rfl pm.log.1 λe f=>pm.log.2 e f,pm.lost,pm.km,pm.full,pm.iZ,pm.jQ,λp hp o=> ?_⟩;obtain ⟨k,u,f⟩:=List.getElem_of_mem hp;have j:(s.part i).ax[k]? =some p:=by grind
  rcases g.own i b k p j with h | ⟨a1,a2,a3,a4⟩
  ·exact absurd h o
  ·exact ⟨(xD m).2 ⟨a1,a2,a3⟩,abb a2 (dH.1 (a4.resolve_right (λh=>h)))⟩
 ·obtain ⟨hp,rfl⟩:=jr.1 d;obtain ⟨v,f1,f2,f3⟩:=xB m hp;rw [t] at f1;cases f1;have pm:=g.proc p hp;have a:jE y (s.proc p).pc=eo c p (s.proc p):=zv f3;refine ⟨pm.st,by rw [f3];exact pm.pc,pm.nC,pm.cur,pm.iQ,pm.jg,pm.qd.resolve_left (λh=>h),λh=>⟨(pm.dead h).1.resolve_left (λh=>h),(pm.dead h).2⟩,λi l n=> ?_,λh=> ?_,λh=> ?_,λh=> ?_,λh=> ?_⟩
  ·obtain ⟨a1,a2,a3,a4⟩:=pm.dP i l n;refine ⟨a1,a2,a3,λr b=> ?_⟩;rw [f2];show fl i ((aG c p:Nat):Int).toNat=true;rw [Int.toNat_natCast];exact a4 r b
  ·rw [a];exact pm.recv h
  ·rw [a];exact pm.snd h
  ·rw [a];exact pm.se h
  ·rw [a];exact pm.ku h
end
end Lf
